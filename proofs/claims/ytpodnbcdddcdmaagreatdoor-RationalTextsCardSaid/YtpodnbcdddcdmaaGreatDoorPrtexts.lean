/- 'RationalTexts' returns true for every input, and each argument reads afterwards as it read before; the package-level tables as the program's text lays them. No other conditions. -/
import Derived.Test.YtpodnbcdddcdmaaGreatDoorRows
import Derived.Test.YtpodnbcdddcdmaaGreatDoorCards
import Derived.Test.YtpodnbcdddcdmaaGreatDoorTie
import Derived.Test.YtpodnbcdddcdmaaGreatDoorVc
import Derived.Test.YtpodnbcdddcdmaaGreatDoorVd
import Derived.Test.YtpodnbcdddcdmaaGreatDoorVp
set_option linter.all false

namespace Go.Proofs.YtpodnbcdddcdmaaGreatDoor
open Go.ChangeShapes Go.WideShapes Go.ChangeAt Go.RowKit

set_option maxRecDepth 20000 in
set_option maxHeartbeats 8000000 in
theorem rtexts_s (x1 x2 : V) (a b : Rat) (ha : RF 3 a) (hb : RF 3 b) (hx1 : ∃ (l1 l2 : List Nat) (b : Bool), x1 = .ag [.im (lv l1) l1.length, .im (lv l2) l2.length, .sc (.bool b)]) (hx2 : ∃ (l1 l2 : List Nat) (b : Bool), x2 = .ag [.im (lv l1) l1.length, .im (lv l2) l2.length, .sc (.bool b)]) (m1 : Spec Tryz.prog 6 [x1] (rv a)) (m2 : Spec Tryz.prog 6 [x2] (rv b)) :
    Spec Tryz.prog 3 [x1, x2] (.sc (.bool true)) := by
  have c1 := prtext_s a 3 ha (by decide) (by decide)
  have c2 := prtext_s b 3 hb (by decide) (by decide)
  have c3 := rSame_i a b 3 ha hb (by decide)
  have q1 := strB_eq (rtxt_lt a) (rtxt_lt b)
  have q2 : decide (rtxt a = rtxt b) = decide (a = b) := by
    by_cases h : a = b
    · rw [decide_eq_true h, h]; simp
    · rw [decide_eq_false h]; exact decide_eq_false fun e => h (rtxt_inj e)
  rw [q2] at q1
  generalize decide (a = b) = t at *
  obtain ⟨y1, z1, b1, rfl⟩ := hx1
  obtain ⟨y2, z2, b2, rfl⟩ := hx2
  have q3 : (t == t) = true := beq_self_eq_true t
  ((try unfold rv at *); (try unfold rt at *); (try unfold iv at *); (try unfold sv at *))
  refine Spec.run Tryz.func3 rfl Tryz.ntmps3 (by simp) (by simp (disch := omega) only [go_sem, Nat.reduceAdd]; rfl) fun B hB => ?_
  (repeat (first | refine DO.nil (by kernel_rfl) ?_ | (with_reducible refine oz (by constructor <;> decide) ?_) | ((first | apply SO.call | apply DO.call); (iterate 3 (focus (simp (disch := omega) only [go_sem, ↓reduceIte, Nat.reduceEqDiff] <;> rfl))); (first | apply SCall.ofX | apply DCall.ofX); (focus (first | assumption | exact sanity2_s)); (focus (simp (disch := omega) only [go_sem] <;> rfl))) | ((with_reducible first | apply SC.condB | apply SC.region | apply SO.run | apply DO.run); (focus (simp (disch := omega) only [go_sem, ↓reduceIte, Nat.reduceEqDiff, Nat.reduceLT, Nat.reduceLeDiff, Nat.reduceAdd, reduceCtorEq, q1, q3, beq_self_eq_true] <;> rfl)); (first | refine pickT ?_ | refine pickF ?_ | fail_if_success with_reducible refine pickA ?_)) | ((with_reducible refine SC.draw Tab.mixed ?_ ?_); (focus rfl)) | (with_reducible apply SC.ops)))
  exact retQ_ret Tryz.results3 (by simp (disch := omega) only [go_sem, ↓reduceIte]; rfl) (by simp (disch := omega) only [go_sem]; rfl) rfl

theorem spec_all (xs : List V) (h : Shp.Vals [.st [.slc (.int .u32), .slc (.int .u32), .bool], .st [.slc (.int .u32), .slc (.int .u32), .bool]] xs) : Spec Tryz.prog 3 xs (.sc (.bool true)) := by
  obtain ⟨x0, ys0, rfl, h0, x1, ys1, rfl, h1, rfl⟩ := h
  obtain ⟨a, ha, ma, ka⟩ := from_shape h0
  obtain ⟨b, hb, mb, kb⟩ := from_shape h1
  exact rtexts_s x0 x1 a b ha hb ka kb ma mb

theorem own : ownKnob Tryz.prog.godebug = none := by kernel_rfl
theorem laidOut : laidOutB Tryz.prog = true := by kernel_rfl

set_option maxRecDepth 100000 in
theorem law_contract (H : Type) (enc : TypeId × Value → H) (W : World) (base : Nat) (args : Array Value) (ds gs : List (DataW H)) (before : List MemPlace)
    (hval : ∀ (j : Nat) t v, Tryz.f3.params[j]? = some t → args[j]? = some v → Value.okWide Tryz.prog W .any 0 t v)
    (hW : DataW.Whole enc Tryz.prog Tryz.f3.params.toList Rows.rationalTextsSpec.vars false W args.toList ds gs before) (hL : laidMetH Tryz.prog Rows.rationalTextsRow.laid W) :
    Calls Tryz.prog 3 args W fun e W' => ∃ v, e = .returned v ∧ Rows.rationalTextsSpec.post enc Tryz.prog Tryz.f3 false true false false W args v W' := by
  have hW' := hW
  obtain ⟨p, q, hA0, hV, rfl, hfz, hnd⟩ := hW
  obtain ⟨hl, hc⟩ := law_calls (enc := enc) [.st [.slc (.int .u32), .slc (.int .u32), .bool], .st [.slc (.int .u32), .slc (.int .u32), .bool]] (by kernel_rfl) hval hA0 (tabs hL) spec_all
  refine hc.mono fun e W' ⟨he, hb⟩ => ?_
  subst he
  rw [show Tryz.f3.params.size = 2 by kernel_rfl] at hl
  obtain ⟨d0, d1, rfl⟩ : ∃ d0 d1, ds = [d0, d1] := by
    match ds, hl with
    | [a0, a1], _ => exact ⟨a0, a1, rfl⟩
  exact ⟨_, rfl, law_post laidOut (by kernel_rfl) (by kernel_rfl) Tryz.underlying4 rfl rfl hW' hb⟩

theorem laid_met (os : Os) : laidMet Tryz.prog Rows.rationalTextsRow.laid ((laidWorld os).forCall (fun _ _ => 0) ⟨#[], #[.agg #[.slice none 0 0, .slice none 0 0, .bool false], .agg #[.slice none 0 0, .slice none 0 0, .bool false]], []⟩).memory :=
  laidMet_of_run' 8 (by kernel_rfl) (by kernel_rfl)
theorem wit_reads (os : Os) {H : Type} (enc : TypeId × Value → H) : ∃ places, DataW.whole enc Tryz.prog ((laidWorld os).forCall (fun _ _ => 0) ⟨#[], #[.agg #[.slice none 0 0, .slice none 0 0, .bool false], .agg #[.slice none 0 0, .slice none 0 0, .bool false]], []⟩).memory Tryz.f3.params.toList Rows.rationalTextsSpec.vars false (#[.agg #[.slice none 0 0, .slice none 0 0, .bool false], .agg #[.slice none 0 0, .slice none 0 0, .bool false]] : Array Value).toList 8 = some ([.agg [.nil, .nil, .lit (.bool false)], .agg [.nil, .nil, .lit (.bool false)]], [], places) :=
  ⟨[], by kernel_rfl⟩

set_option maxRecDepth 100000 in
theorem law_lifted (os : Os) (started : os.Started) (H : Type) (enc : TypeId × Value → H) (F : Stop.Interp) :
    ReturnsInHanded {} Tryz.checked os 3 .any ((OpenSpec.ofChange Rows.rationalTextsSpec).preRow enc Tryz.prog Tryz.f3 Rows.rationalTextsRow.domain false Rows.rationalTextsRow.laid) (((OpenSpec.ofChange Rows.rationalTextsSpec).at F).post enc Tryz.prog Tryz.f3 false true false false) := by
  obtain ⟨places, hx⟩ := wit_reads os enc
  refine returnsInHanded_of_row (C := Tryz.checked) (s := OpenSpec.ofChange Rows.rationalTextsSpec) own started (by kernel_rfl) Tryz.func3
    (witness_row_at (enc := enc) (C := Tryz.checked) false (laidWorld os) #[.agg #[.slice none 0 0, .slice none 0 0, .bool false], .agg #[.slice none 0 0, .slice none 0 0, .bool false]] rfl (by kernel_rfl) (by kernel_rfl) (by kernel_rfl)
      (OpenSpec.preRow_of_cond 8 hx (by kernel_rfl) (fun k hk => by cases hk) (by kernel_rfl) (laid_met os))) ?_
  intro W base args ds gs before hval hW _ _ _ hL _ _
  exact law_contract H enc W base args ds gs before hval hW hL

theorem said : Rows.RationalTextsSaid :=
  OpenClaim.holds_of_cond 3 Tryz.f3 rfl rfl rfl rfl rfl rfl rfl ⟨rfl, rfl, rfl, rfl, rfl⟩ rfl rfl rfl rfl rfl (by kernel_rfl) Tryz.func3 (by kernel_rfl)
    (of_decide_eq_true (by kernel_rfl)) (by unfold Func.isWrapper; first | (rw [if_pos (by decide +kernel)]; kernel_rfl) | (rw [if_neg (by decide +kernel)]; exact ⟨rfl, rfl⟩))
    (fun os started H enc _ F => by rw [OpenClaim.pre_eq_preRow]; exact law_lifted os started H enc F)

/-- no parameter wants a stand-in; the program's own looks are off -/
theorem plain (f : FuncId) (fn : Func) (hf : Tryz.pinned.checked.prog.funcNamed "torsion/torsionlaw02.RationalTexts" = some f) (hfn : Tryz.pinned.checked.prog.funcs[f]? = some fn) :
    false = Tryz.pinned.checked.prog.looks [] ∧ ∀ (j : Nat) t, fn.params[j]? = some t → Tryz.pinned.checked.prog.wantsStandIn t = false := by
  obtain rfl : f = 3 := Option.some.inj ((show Tryz.prog.funcNamed "torsion/torsionlaw02.RationalTexts" = some 3 by kernel_rfl).symm.trans hf) |>.symm
  obtain rfl : fn = Tryz.f3 := (Option.some.inj (Tryz.func3.symm.trans hfn)).symm
  refine ⟨by kernel_rfl, fun j t ht => ?_⟩
  have hm : t ∈ Tryz.f3.params.toList := by simpa using Array.mem_of_getElem? ht
  have hall : (Tryz.f3.params.toList.all fun t => !Tryz.prog.wantsStandIn t) = true := by kernel_rfl
  have := List.all_eq_true.1 hall t hm
  exact (show Tryz.prog.wantsStandIn t = false by simpa using this)

theorem law_holds : Rows.RationalTextsCardSaid :=
  Claim7.holds_tied_plain_at .later [] _ _ _ _ said (fun _ h => by cases h) (by kernel_rfl) (fun _ h => by cases h) rationalTexts_row_tie rfl ⟨rfl, rfl⟩ (by kernel_rfl) rfl plain (by kernel_rfl)
#print axioms law_holds
end Go.Proofs.YtpodnbcdddcdmaaGreatDoor
