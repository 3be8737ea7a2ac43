/- 'RationalOrder' returns true for every input, and each argument reads afterwards as it read before; the package-level tables as the program's text lays them. No other conditions. -/
import Derived.Test.YtiimoommhahloaaGreatDoorRows
import Derived.Test.YtiimoommhahloaaGreatDoorCards
import Derived.Test.YtiimoommhahloaaGreatDoorTie
import Derived.Test.YtiimoommhahloaaGreatDoorZc
import Derived.Test.YtiimoommhahloaaGreatDoorZd
import Derived.Test.YtiimoommhahloaaGreatDoorZi
set_option linter.all false

namespace Go.Proofs.YtiimoommhahloaaGreatDoor
open Go.ChangeShapes Go.WideShapes Go.ChangeAt Go.RowKit

set_option maxRecDepth 20000 in
set_option maxHeartbeats 8000000 in
theorem rorder_s (x1 x2 x3 : V) (a b c : Rat) (ha : RF 3 a) (hb : RF 3 b) (hc : RF 3 c) (hx1 : ∃ (l1 l2 : List Nat) (b : Bool), x1 = .ag [.im (lv l1) l1.length, .im (lv l2) l2.length, .sc (.bool b)]) (hx2 : ∃ (l1 l2 : List Nat) (b : Bool), x2 = .ag [.im (lv l1) l1.length, .im (lv l2) l2.length, .sc (.bool b)]) (hx3 : ∃ (l1 l2 : List Nat) (b : Bool), x3 = .ag [.im (lv l1) l1.length, .im (lv l2) l2.length, .sc (.bool b)]) (m1 : Spec Tryz.prog 10 [x1] (rv a)) (m2 : Spec Tryz.prog 10 [x2] (rv b)) (m3 : Spec Tryz.prog 10 [x3] (rv c)) :
    Spec Tryz.prog 3 [x1, x2, x3] (.sc (.bool true)) := by
  have fa := ha.mono (L := 20) (by omega)
  have fb := hb.mono (L := 20) (by omega)
  have fc := hc.mono (L := 20) (by omega)
  have c1 := pCmp_i a b 20 fa fb (by omega)
  have c2 := pCmp_i b a 20 fb fa (by omega)
  have c3 := rSame_i a b 20 fa fb (by omega)
  have c4 := pSub_i a b 20 fa fb (by omega)
  have c5 := pSign_i (a - b) 100 ((fa.sub fb).mono (by omega)) (by omega)
  rw [rcmp_sub] at c5
  have c6 := pCmp_i b c 20 fb fc (by omega)
  have c7 := pCmp_i a c 20 fa fc (by omega)
  have c8 := pSign_i c 20 fc (by omega)
  have c9 := pMul_i a c 20 fa fc (by omega)
  have c10 := pMul_i b c 20 fb fc (by omega)
  have c11 := pCmp_i (a * c) (b * c) 100 ((fa.mul fc).mono (by omega)) ((fb.mul fc).mono (by omega)) (by omega)
  have c12 := pAdd_i a c 20 fa fc (by omega)
  have c13 := pAdd_i b c 20 fb fc (by omega)
  have c14 := pCmp_i (a + c) (b + c) 100 ((fa.add fc).mono (by omega)) ((fb.add fc).mono (by omega)) (by omega)
  rw [rcmp_add] at c14
  have hsw := rcmp_swap a b
  have hbd : ∀ x y : Rat, -1 ≤ rcmp x y ∧ rcmp x y ≤ 1 := fun x y => by have := rcmp_cases x y; omega
  have hba := hbd b a
  have hab := hbd a b
  have q1 : (rcmp a b == 0 - rcmp b a) = true := by rw [beq_iff_eq]; omega
  have q2 : (rcmp a b == 0) = decide (a = b) := by
    by_cases h : a = b
    · subst h; rw [decide_eq_true rfl]; have := rcmp_cases a a; rw [beq_iff_eq]; rcases this with ⟨h, _⟩ | ⟨_, h⟩ | ⟨h, _⟩
      · exact absurd h (by grind)
      · exact h
      · exact absurd h (by grind)
    · rw [decide_eq_false h, beq_eq_false_iff_ne]; intro e
      rcases rcmp_cases a b with ⟨_, f⟩ | ⟨f, _⟩ | ⟨_, f⟩
      · omega
      · exact h f
      · omega
  have htr := rcmp_trans a b c
  have hscale : (decide (c.num.sign ≤ 0) = true ∧ (true == true) = true) ∨ (decide (c.num.sign ≤ 0) = false ∧ (rcmp (a * c) (b * c) == rcmp a b) = true) := by
    rcases rsgn_cases c with ⟨_, f⟩ | ⟨_, f⟩ | ⟨h, f⟩
    · left; rw [f]; exact ⟨by decide, rfl⟩
    · left; rw [f]; exact ⟨by decide, rfl⟩
    · right; rw [f]; exact ⟨by decide, by rw [rcmp_mul a b c h, beq_iff_eq]⟩
  have hchain : (decide (0 < rcmp a b) = true ∧ (true == true) = true ∧ (true == true) = true) ∨ (decide (0 < rcmp a b) = false ∧ decide (0 < rcmp b c) = true ∧ (true == true) = true) ∨ (decide (0 < rcmp a b) = false ∧ decide (0 < rcmp b c) = false ∧ decide (rcmp a c ≤ 0) = true) := by
    by_cases h1 : 0 < rcmp a b
    · left; exact ⟨decide_eq_true h1, rfl, rfl⟩
    · by_cases h2 : 0 < rcmp b c
      · right; left; exact ⟨decide_eq_false h1, decide_eq_true h2, rfl⟩
      · right; right; exact ⟨decide_eq_false h1, decide_eq_false h2, decide_eq_true (htr (by omega) (by omega))⟩
  clear htr hsw hbd
  obtain ⟨y1, z1, b1, rfl⟩ := hx1
  obtain ⟨y2, z2, b2, rfl⟩ := hx2
  obtain ⟨y3, z3, b3, rfl⟩ := hx3
  generalize rcmp a b = n1 at *
  generalize rcmp b a = n2 at *
  generalize rcmp b c = n3 at *
  generalize rcmp a c = n4 at *
  generalize rcmp (a * c) (b * c) = n5 at *
  generalize a - b = r1 at *
  generalize a * c = r2 at *
  generalize b * c = r3 at *
  generalize a + c = r4 at *
  generalize b + c = r5 at *
  generalize decide (a = b) = dab at *
  generalize c.num.sign = sc at *
  ((try unfold rv at *); (try unfold rt at *); (try unfold iv at *); (try unfold sv at *))
  rcases hscale with ⟨q3, q4⟩ | ⟨q3, q4⟩ <;> rcases hchain with ⟨q5, q6, q7⟩ | ⟨q5, q6, q7⟩ | ⟨q5, q6, q7⟩
  all_goals
    refine Spec.run Tryz.func3 rfl Tryz.ntmps3 (by simp) (by simp (disch := omega) only [go_sem, Nat.reduceAdd]; rfl) fun B hB => ?_
    (repeat (first | refine DO.nil (by kernel_rfl) ?_ | with_reducible refine SC.seq ?_ | with_reducible refine SC.skip ?_ | with_reducible refine SC.label ?_ | with_reducible refine SC.block ?_ | with_reducible refine SC.scope ?_ | with_reducible refine SC.nil ?_ | with_reducible refine SC.exit ?_ | with_reducible refine SC.ret ?_ | with_reducible refine SO.nil ?_ | with_reducible refine tq_normal ?_ | with_reducible refine bq_normal ?_ | with_reducible refine bq_same ?_ | with_reducible refine bq_other (by decide) ?_ | with_reducible refine tq_exit ?_ | with_reducible refine tq_ret ?_ | with_reducible refine bq_ret ?_ | with_reducible refine sq_normal ?_ | with_reducible refine sq_exit ?_ | with_reducible refine sq_ret ?_ | ((with_reducible apply SC.condB); (focus (simp (disch := omega) only [go_sem, ↓reduceIte, Nat.reduceEqDiff, Nat.reduceLT, Nat.reduceLeDiff, Nat.reduceAdd, Nat.reduceMul, Nat.reduceSub, reduceCtorEq, Nat.reduceBEq, Int.reduceToNat, Int.reducePow, if_pos, if_neg, beq_self_eq_true, q1, q2, q3, q4, q5, q6, q7]; rfl)); (first | refine pickT ?_ | refine pickF ?_)) | ((with_reducible apply SC.region); (focus (simp (disch := omega) only [go_sem, ↓reduceIte, Nat.reduceEqDiff, Nat.reduceLeDiff, Nat.reduceAdd, reduceCtorEq, beq_self_eq_true, q5]; rfl))) | ((with_reducible refine SC.draw Tab.mixed ?_ ?_); (focus (first | rfl | simp (disch := omega) only [go_sem, ↓reduceIte, Nat.reduceEqDiff, Nat.reduceLT, Nat.reduceLeDiff, Nat.reduceAdd, Nat.reduceMul, Nat.reduceSub, reduceCtorEq, Nat.reduceBEq, Int.reduceToNat, Int.reducePow, if_pos, if_neg, beq_self_eq_true, q1, q2, q3, q4, q5, q6, q7]))) | (with_reducible refine SC.ops ?_) | ((first | apply SO.call | apply DO.call); (focus (simp (disch := omega) only [go_sem])); (focus (simp (disch := omega) only [go_sem, ↓reduceIte, Nat.reduceEqDiff]; rfl)); (focus (simp (disch := omega) only [go_sem, ↓reduceIte, Nat.reduceEqDiff, beq_self_eq_true] <;> rfl)); (first | (apply SCall.of; (focus (first | assumption | exact sanity2_s)); (focus (simp (disch := omega) only [go_sem]; rfl))) | (apply DCall.of; (focus (first | assumption | exact sanity2_s)); (focus (simp (disch := omega) only [go_sem]; rfl))) | (apply SCall.ofF; (focus (first | assumption | exact sanity2_s)); (focus (simp (disch := omega) only [go_sem, ↓reduceIte, Nat.reduceEqDiff, Nat.reduceLT, Nat.reduceLeDiff, Nat.reduceAdd, Nat.reduceMul, Nat.reduceSub, reduceCtorEq, Nat.reduceBEq, Int.reduceToNat, Int.reducePow, if_pos, if_neg, beq_self_eq_true, q1, q2, q3, q4, q5, q6, q7]; rfl))))) | ((first | with_reducible apply SO.run | with_reducible apply DO.run); (focus (simp (disch := omega) only [go_sem, ↓reduceIte, Nat.reduceEqDiff, Nat.reduceLT, Nat.reduceLeDiff, Nat.reduceAdd, reduceCtorEq, beq_self_eq_true, q1, q2, q3, q4, q5, q6, q7]; rfl)))))
    exact retQ_ret Tryz.results3 (by simp (disch := omega) only [go_sem, ↓reduceIte]; rfl) (by simp (disch := omega) only [go_sem]; rfl) rfl

theorem spec_all (xs : List V) (h : Shp.Vals [.st [.slc (.int .u32), .slc (.int .u32), .bool], .st [.slc (.int .u32), .slc (.int .u32), .bool], .st [.slc (.int .u32), .slc (.int .u32), .bool]] xs) : Spec Tryz.prog 3 xs (.sc (.bool true)) := by
  obtain ⟨x0, ys0, rfl, h0, x1, ys1, rfl, h1, x2, ys2, rfl, h2, rfl⟩ := h
  obtain ⟨a, ha, ma, ka⟩ := from_shape h0
  obtain ⟨b, hb, mb, kb⟩ := from_shape h1
  obtain ⟨c, hc, mc, kc⟩ := from_shape h2
  exact rorder_s x0 x1 x2 a b c ha hb hc ka kb kc ma mb mc

theorem own : ownKnob Tryz.prog.godebug = none := by kernel_rfl
theorem laidOut : laidOutB Tryz.prog = true := by kernel_rfl

set_option maxRecDepth 100000 in
theorem law_contract (H : Type) (enc : TypeId × Value → H) (W : World) (base : Nat) (args : Array Value) (ds gs : List (DataW H)) (before : List MemPlace)
    (hval : ∀ (j : Nat) t v, Tryz.f3.params[j]? = some t → args[j]? = some v → Value.okWide Tryz.prog W .any 0 t v)
    (hW : DataW.Whole enc Tryz.prog Tryz.f3.params.toList Rows.rationalOrderSpec.vars false W args.toList ds gs before) (hL : laidMetH Tryz.prog Rows.rationalOrderRow.laid W) :
    Calls Tryz.prog 3 args W fun e W' => ∃ v, e = .returned v ∧ Rows.rationalOrderSpec.post enc Tryz.prog Tryz.f3 false true false false W args v W' := by
  have hW' := hW
  obtain ⟨p, q, hA0, hV, rfl, hfz, hnd⟩ := hW
  obtain ⟨hl, hc⟩ := law_calls (enc := enc) [.st [.slc (.int .u32), .slc (.int .u32), .bool], .st [.slc (.int .u32), .slc (.int .u32), .bool], .st [.slc (.int .u32), .slc (.int .u32), .bool]] (by kernel_rfl) hval hA0 (tabs hL) spec_all
  refine hc.mono fun e W' ⟨he, hb⟩ => ?_
  subst he
  rw [show Tryz.f3.params.size = 3 by kernel_rfl] at hl
  obtain ⟨d0, d1, d2, rfl⟩ : ∃ d0 d1 d2, ds = [d0, d1, d2] := by
    match ds, hl with
    | [a0, a1, a2], _ => exact ⟨a0, a1, a2, rfl⟩
  exact ⟨_, rfl, law_post laidOut (by kernel_rfl) (by kernel_rfl) Tryz.underlying4 rfl rfl hW' hb⟩

theorem laid_met (os : Os) : laidMet Tryz.prog Rows.rationalOrderRow.laid ((laidWorld os).forCall (fun _ _ => 0) ⟨#[], #[.agg #[.slice none 0 0, .slice none 0 0, .bool false], .agg #[.slice none 0 0, .slice none 0 0, .bool false], .agg #[.slice none 0 0, .slice none 0 0, .bool false]], []⟩).memory :=
  laidMet_of_run' 8 (by kernel_rfl) (by kernel_rfl)
theorem wit_reads (os : Os) {H : Type} (enc : TypeId × Value → H) : ∃ places, DataW.whole enc Tryz.prog ((laidWorld os).forCall (fun _ _ => 0) ⟨#[], #[.agg #[.slice none 0 0, .slice none 0 0, .bool false], .agg #[.slice none 0 0, .slice none 0 0, .bool false], .agg #[.slice none 0 0, .slice none 0 0, .bool false]], []⟩).memory Tryz.f3.params.toList Rows.rationalOrderSpec.vars false (#[.agg #[.slice none 0 0, .slice none 0 0, .bool false], .agg #[.slice none 0 0, .slice none 0 0, .bool false], .agg #[.slice none 0 0, .slice none 0 0, .bool false]] : Array Value).toList 8 = some ([.agg [.nil, .nil, .lit (.bool false)], .agg [.nil, .nil, .lit (.bool false)], .agg [.nil, .nil, .lit (.bool false)]], [], places) :=
  ⟨[], by kernel_rfl⟩

set_option maxRecDepth 100000 in
theorem law_lifted (os : Os) (started : os.Started) (H : Type) (enc : TypeId × Value → H) (F : Stop.Interp) :
    ReturnsInHanded {} Tryz.checked os 3 .any ((OpenSpec.ofChange Rows.rationalOrderSpec).preRow enc Tryz.prog Tryz.f3 Rows.rationalOrderRow.domain false Rows.rationalOrderRow.laid) (((OpenSpec.ofChange Rows.rationalOrderSpec).at F).post enc Tryz.prog Tryz.f3 false true false false) := by
  obtain ⟨places, hx⟩ := wit_reads os enc
  refine returnsInHanded_of_row (C := Tryz.checked) (s := OpenSpec.ofChange Rows.rationalOrderSpec) own started (by kernel_rfl) Tryz.func3
    (witness_row_at (enc := enc) (C := Tryz.checked) false (laidWorld os) #[.agg #[.slice none 0 0, .slice none 0 0, .bool false], .agg #[.slice none 0 0, .slice none 0 0, .bool false], .agg #[.slice none 0 0, .slice none 0 0, .bool false]] rfl (by kernel_rfl) (by kernel_rfl) (by kernel_rfl)
      (OpenSpec.preRow_of_cond 8 hx (by kernel_rfl) (fun k hk => by cases hk) (by kernel_rfl) (laid_met os))) ?_
  intro W base args ds gs before hval hW _ _ _ hL _ _
  exact law_contract H enc W base args ds gs before hval hW hL

theorem said : Rows.RationalOrderSaid :=
  OpenClaim.holds_of_cond 3 Tryz.f3 rfl rfl rfl rfl rfl rfl rfl ⟨rfl, rfl, rfl, rfl, rfl⟩ rfl rfl rfl rfl rfl (by kernel_rfl) Tryz.func3 (by kernel_rfl)
    (of_decide_eq_true (by kernel_rfl)) (by unfold Func.isWrapper; first | (rw [if_pos (by decide +kernel)]; kernel_rfl) | (rw [if_neg (by decide +kernel)]; exact ⟨rfl, rfl⟩))
    (fun os started H enc _ F => by rw [OpenClaim.pre_eq_preRow]; exact law_lifted os started H enc F)

/-- no parameter wants a stand-in; the program's own looks are off -/
theorem plain (f : FuncId) (fn : Func) (hf : Tryz.pinned.checked.prog.funcNamed "torsion/torsionlaw02.RationalOrder" = some f) (hfn : Tryz.pinned.checked.prog.funcs[f]? = some fn) :
    false = Tryz.pinned.checked.prog.looks [] ∧ ∀ (j : Nat) t, fn.params[j]? = some t → Tryz.pinned.checked.prog.wantsStandIn t = false := by
  obtain rfl : f = 3 := Option.some.inj ((show Tryz.prog.funcNamed "torsion/torsionlaw02.RationalOrder" = some 3 by kernel_rfl).symm.trans hf) |>.symm
  obtain rfl : fn = Tryz.f3 := (Option.some.inj (Tryz.func3.symm.trans hfn)).symm
  refine ⟨by kernel_rfl, fun j t ht => ?_⟩
  have hm : t ∈ Tryz.f3.params.toList := by simpa using Array.mem_of_getElem? ht
  have hall : (Tryz.f3.params.toList.all fun t => !Tryz.prog.wantsStandIn t) = true := by kernel_rfl
  have := List.all_eq_true.1 hall t hm
  exact (show Tryz.prog.wantsStandIn t = false by simpa using this)

theorem law_holds : Rows.RationalOrderCardSaid :=
  Claim7.holds_tied_plain_at .later [] _ _ _ _ said (fun _ h => by cases h) (by kernel_rfl) (fun _ h => by cases h) rationalOrder_row_tie rfl ⟨rfl, rfl⟩ (by kernel_rfl) rfl plain (by kernel_rfl)
#print axioms law_holds
end Go.Proofs.YtiimoommhahloaaGreatDoor
