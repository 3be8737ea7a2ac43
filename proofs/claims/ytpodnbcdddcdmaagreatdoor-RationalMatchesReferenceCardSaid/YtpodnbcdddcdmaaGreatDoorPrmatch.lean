/- 'RationalMatchesReference' returns true for every input, and each argument reads afterwards as it read before; the package-level tables as the program's text lays them. No other conditions. -/
import Derived.Test.YtpodnbcdddcdmaaGreatDoorRows
import Derived.Test.YtpodnbcdddcdmaaGreatDoorCards
import Derived.Test.YtpodnbcdddcdmaaGreatDoorTie
import Derived.Test.YtpodnbcdddcdmaaGreatDoorVc
import Derived.Test.YtpodnbcdddcdmaaGreatDoorVd
import Derived.Test.YtpodnbcdddcdmaaGreatDoorVp
set_option linter.all false

namespace Go.Proofs.YtpodnbcdddcdmaaGreatDoor
open Go.ChangeShapes Go.WideShapes Go.ChangeAt Go.RowKit

set_option maxRecDepth 20000 in
set_option maxHeartbeats 8000000 in
theorem rmatch_s (x1 x2 : V) (a b : Rat) (ha : RF 3 a) (hb : RF 3 b) (hx1 : ∃ (l1 l2 : List Nat) (b : Bool), x1 = .ag [.im (lv l1) l1.length, .im (lv l2) l2.length, .sc (.bool b)]) (hx2 : ∃ (l1 l2 : List Nat) (b : Bool), x2 = .ag [.im (lv l1) l1.length, .im (lv l2) l2.length, .sc (.bool b)]) (m1 : Spec Tryz.prog 6 [x1] (rv a)) (m2 : Spec Tryz.prog 6 [x2] (rv b))
    (l1 l2 : List Nat) (n1 n2 : Bool) (h1 : limbs l1) (h2 : limbs l2) (z1 : l1.length ≤ 9223372036854775807) (z2 : l2.length ≤ 9223372036854775807) :
    Spec Tryz.prog 4 [x1, x2, .ag [.sc (.bool n1), .im (lv l1) l1.length, .sc (.bool n2), .im (lv l2) l2.length]] (.sc (.bool true)) := by
  obtain ⟨y1, w1, b1, rfl⟩ := hx1
  obtain ⟨y2, w2, b2, rfl⟩ := hx2
  by_cases e1 : 4 < l1.length
  · have q1 := decide_eq_true (p := (4 : Int) < (l1.length : Int)) (by omega)
    refine Spec.run Tryz.func4 rfl Tryz.ntmps4 (by simp) (by simp (disch := omega) only [go_sem, Nat.reduceAdd]; rfl) fun B hB => ?_
    (repeat (first | refine DO.nil (by kernel_rfl) ?_ | (with_reducible refine oz (by constructor <;> decide) ?_) | ((first | apply SO.call | apply DO.call); (iterate 3 (focus (simp (disch := omega) only [go_sem] <;> rfl))); (first | apply SCall.ofX | apply DCall.ofX); (focus (first | assumption | exact sanity2_s)); (focus (simp (disch := omega) only [go_sem] <;> rfl))) | ((with_reducible first | apply SC.condB | apply SC.region | apply SO.run | apply DO.run); (focus (simp (disch := omega) only [go_sem, ↓reduceIte, Nat.reduceEqDiff, Nat.reduceAdd, reduceCtorEq, q1] <;> rfl)); (first | refine pickT ?_ | refine pickF ?_ | fail_if_success with_reducible refine pickA ?_)) | ((with_reducible refine SC.draw Tab.mixed ?_ ?_); (focus rfl)) | (with_reducible apply SC.ops)))
    exact retQ_ret Tryz.results4 (by simp (disch := omega) only [go_sem, ↓reduceIte]; rfl) (by simp (disch := omega) only [go_sem]; rfl) rfl
  have q1 := decide_eq_false (p := (4 : Int) < (l1.length : Int)) (by omega)
  by_cases e2 : 4 < l2.length
  · have q2 := decide_eq_true (p := (4 : Int) < (l2.length : Int)) (by omega)
    refine Spec.run Tryz.func4 rfl Tryz.ntmps4 (by simp) (by simp (disch := omega) only [go_sem, Nat.reduceAdd]; rfl) fun B hB => ?_
    (repeat (first | refine DO.nil (by kernel_rfl) ?_ | (with_reducible refine oz (by constructor <;> decide) ?_) | ((first | apply SO.call | apply DO.call); (iterate 3 (focus (simp (disch := omega) only [go_sem] <;> rfl))); (first | apply SCall.ofX | apply DCall.ofX); (focus (first | assumption | exact sanity2_s)); (focus (simp (disch := omega) only [go_sem] <;> rfl))) | ((with_reducible first | apply SC.condB | apply SC.region | apply SO.run | apply DO.run); (focus (simp (disch := omega) only [go_sem, ↓reduceIte, Nat.reduceEqDiff, Nat.reduceAdd, reduceCtorEq, q1, q2] <;> rfl)); (first | refine pickT ?_ | refine pickF ?_ | fail_if_success with_reducible refine pickA ?_)) | ((with_reducible refine SC.draw Tab.mixed ?_ ?_); (focus rfl)) | (with_reducible apply SC.ops)))
    exact retQ_ret Tryz.results4 (by simp (disch := omega) only [go_sem, ↓reduceIte]; rfl) (by simp (disch := omega) only [go_sem]; rfl) rfl
  have q2 := decide_eq_false (p := (4 : Int) < (l2.length : Int)) (by omega)
  obtain ⟨v1, v2⟩ := valids_s l1 l2 n1 n2 h1 h2 (by omega) (by omega)
  generalize ratB l1 n1 l2 n2 = vb at *
  have q3 : (vb != vb) = false := by simp
  have fa := ha.mono (L := 20) (by omega)
  have fb := hb.mono (L := 20) (by omega)
  have va := prv_s a.num a.den 3 ha.1 ha.2 (by decide) (pvalid_q a.num 3 ha.1 (by decide)) (pvalid_q a.den 3 ha.2 (by decide))
  rw [ratV_of] at va
  have c1 := pAdd_i a b 20 fa fb (by omega)
  have d1 := rAdd_i a b 20 fa fb (by omega)
  have s1 := rSame_t (a + b) 100 ((fa.add fb).mono (by omega)) (by omega)
  have c2 := pSub_i a b 20 fa fb (by omega)
  have d2 := rSub_i a b 20 fa fb (by omega)
  have s2 := rSame_t (a - b) 100 ((fa.sub fb).mono (by omega)) (by omega)
  have c3 := pMul_i a b 20 fa fb (by omega)
  have d3 := rMul_i a b 20 fa fb (by omega)
  have s3 := rSame_t (a * b) 100 ((fa.mul fb).mono (by omega)) (by omega)
  have c4 := pNeg_i a 20 fa (by omega)
  have d4 := rNeg_i a 20 fa (by omega)
  have s4 := rSame_t (-a) 100 (fa.neg.mono (by omega)) (by omega)
  have c5 := pWhole_i a.num 20 fa.1 (by omega)
  have d5 := rWhole_i a.num
  have s5 := rSame_t ((a.num : Int) : Rat) 20 ⟨fa.1, Fits.one (by omega)⟩ (by omega)
  have c6 := pFloor_i a 20 fa (by omega)
  have d6 := rFloor_i a 20 fa (by omega)
  have ff : Fits 20 (a.num / a.den) := by
    have := Int.natAbs_ediv_le_natAbs a.num a.den
    have := fa.1
    unfold Fits at *; omega
  have s6 := same_i _ _ (fits_short ff (by omega)) (fits_short ff (by omega))
  rw [decide_eq_true rfl] at s6
  have c7 := pRound_i a 20 fa (by omega)
  have d7 := rRound_i a 20 fa (by omega) (by omega)
  have fr : Fits 23 (rround a) := by
    have h1 := ((fa.1.add fa.1).add (fa.2.mono (L := 21) (by omega)))
    have := Int.natAbs_ediv_le_natAbs (a.num + a.num + a.den) (a.den + a.den)
    have h1 := h1.mono (L := 23) (by omega)
    unfold rround Fits at *; omega
  have s7 := same_i _ _ (fits_short fr (by omega)) (fits_short fr (by omega))
  rw [decide_eq_true rfl] at s7
  have c8 := pIntegral_i a 20 fa (by omega) (by omega)
  have d8 := rIntegral_i a 20 fa (by omega) (by omega)
  have c9 := pCmp_i a b 20 fa fb (by omega)
  have d9 := rCmp_i a b 20 fa fb (by omega)
  have c10 := pSign_i a 20 fa (by omega)
  have d10 := rSign_i a 20 fa (by omega)
  have c11 := prtext_s a 3 ha (by omega) (by omega)
  have d11 := rrtext_s a 3 ha (by omega) (by omega)
  have t11 := strB_eq (rtxt_lt a) (rtxt_lt a)
  rw [decide_eq_true rfl] at t11
  have q0 : ((0 : Int) != 0) = false := by decide
  have q30 : ((3 : Int) != 3) = false := by decide
  generalize a + b = r1 at *
  generalize a - b = r2 at *
  generalize a * b = r3 at *
  generalize -a = r4 at *
  generalize ((a.num : Int) : Rat) = r5 at *
  generalize a.num / (a.den : Int) = i1 at *
  generalize rround a = i2 at *
  generalize rcmp a b = i3 at *
  generalize a.num.sign = i4 at *
  generalize decide (a.den = 1) = g8 at *
  generalize rtxt a = tx at *
  have u8 : (g8 == g8) = true := beq_self_eq_true _
  by_cases h0 : b = 0
  · have c13 := pDiv_zero a
    have d13 := rDiv_zero a 20 fa (by omega)
    rw [show rv (0 : Rat) = rv b by rw [h0]] at c13 d13
    have c14 := pOf_zero a.num
    have d14 := rOf_zero a.num 20 fa.1 (by omega)
    have hbn : (0 : Int) = b.num := by rw [h0]; rfl
    have ez : rt 0 0 = rt 0 0 := rfl
    have s13 := rSame_z
    have y1 : iv 0 = iv b.num := by rw [← hbn]
    rw [y1] at c14 d14
    clear ez hbn y1 h0
    ((try unfold rv at *); (try unfold rt at *); (try unfold iv at *); (try unfold sv at *))
    refine Spec.run Tryz.func4 rfl Tryz.ntmps4 (by simp) (by simp (disch := omega) only [go_sem, Nat.reduceAdd]; rfl) fun B hB => ?_
    (repeat (first | refine DO.nil (by kernel_rfl) ?_ | (with_reducible refine oz (by constructor <;> decide) ?_) | ((first | apply SO.call | apply DO.call); (iterate 3 (focus (simp (disch := omega) only [go_sem, ↓reduceIte, Nat.reduceEqDiff, beq_self_eq_true] <;> rfl))); (first | apply SCall.ofX | apply DCall.ofX); (focus (first | assumption | exact sanity2_s)); (focus (simp (disch := omega) only [go_sem] <;> rfl))) | ((with_reducible first | apply SC.condB | apply SC.region | apply SO.run | apply DO.run); (focus (simp (disch := omega) only [go_sem, ↓reduceIte, Nat.reduceEqDiff, Nat.reduceLT, Nat.reduceLeDiff, Nat.reduceAdd, reduceCtorEq, q1, q2, q3, q30, u8, t11, beq_self_eq_true, Bool.not_true] <;> rfl)); (first | refine pickT ?_ | refine pickF ?_ | fail_if_success with_reducible refine pickA ?_)) | ((with_reducible refine SC.draw Tab.mixed ?_ ?_); (focus rfl)) | (with_reducible apply SC.ops)))
    exact retQ_ret Tryz.results4 (by simp (disch := omega) only [go_sem, ↓reduceIte]; rfl) (by simp (disch := omega) only [go_sem]; rfl) rfl
  · have hbn : b.num ≠ 0 := fun h => h0 (Rat.num_eq_zero.1 h)
    have c13 := pDiv_i a b 20 fa fb (by omega) h0
    have d13 := rDiv_i a b 20 fa fb (by omega) h0
    have s13 := rSame_t (a / b) 100 ((fa.div fb h0).mono (by omega)) (by omega)
    have c14 := pOf_i a.num b.num 20 fa.1 fb.1 (by omega) hbn
    have d14 := rOf_i a.num b.num 20 fa.1 fb.1 (by omega) hbn
    have s14 := rSame_t (Rat.divInt a.num b.num) 100 ((RF.divInt fa.1 fb.1 hbn).mono (by omega)) (by omega)
    generalize a / b = r6 at *
    generalize Rat.divInt a.num b.num = r7 at *
    clear h0 hbn
    ((try unfold rv at *); (try unfold rt at *); (try unfold iv at *); (try unfold sv at *))
    refine Spec.run Tryz.func4 rfl Tryz.ntmps4 (by simp) (by simp (disch := omega) only [go_sem, Nat.reduceAdd]; rfl) fun B hB => ?_
    (repeat (first | refine DO.nil (by kernel_rfl) ?_ | (with_reducible refine oz (by constructor <;> decide) ?_) | ((first | apply SO.call | apply DO.call); (iterate 3 (focus (simp (disch := omega) only [go_sem, ↓reduceIte, Nat.reduceEqDiff, beq_self_eq_true] <;> rfl))); (first | apply SCall.ofX | apply DCall.ofX); (focus (first | assumption | exact sanity2_s)); (focus (simp (disch := omega) only [go_sem] <;> rfl))) | ((with_reducible first | apply SC.condB | apply SC.region | apply SO.run | apply DO.run); (focus (simp (disch := omega) only [go_sem, ↓reduceIte, Nat.reduceEqDiff, Nat.reduceLT, Nat.reduceLeDiff, Nat.reduceAdd, reduceCtorEq, q1, q2, q3, q0, u8, t11, beq_self_eq_true, Bool.not_true] <;> rfl)); (first | refine pickT ?_ | refine pickF ?_ | fail_if_success with_reducible refine pickA ?_)) | ((with_reducible refine SC.draw Tab.mixed ?_ ?_); (focus rfl)) | (with_reducible apply SC.ops)))
    exact retQ_ret Tryz.results4 (by simp (disch := omega) only [go_sem, ↓reduceIte]; rfl) (by simp (disch := omega) only [go_sem]; rfl) rfl

theorem rat_shape {x : V} (h : (Shp.st [.st [.bool, .slc (.int .u32)], .st [.bool, .slc (.int .u32)]]).Val x) : ∃ (n1 : Bool) (l1 : List Nat) (n2 : Bool) (l2 : List Nat), x = .ag [.sc (.bool n1), .im (lv l1) l1.length, .sc (.bool n2), .im (lv l2) l2.length] ∧ limbs l1 ∧ limbs l2 ∧ l1.length ≤ maxLen ∧ l2.length ≤ maxLen := by
  obtain ⟨ys, rfl, a, r, rfl, ⟨c, d, rfl, ⟨n1, rfl⟩, e, f, rfl, ⟨yss, g1, rfl, g2⟩, rfl⟩, a', r', rfl, ⟨c', d', rfl, ⟨n2, rfl⟩, e', f', rfl, ⟨yss', g1', rfl, g2'⟩, rfl⟩, rfl⟩ := h
  obtain ⟨ns, h3, h4, h5⟩ := reps_nats u32_wf g2
  obtain ⟨ns', h3', h4', h5'⟩ := reps_nats u32_wf g2'
  refine ⟨n1, ns, n2, ns', ?_, fun n hn => by have := h5 n hn; omega, fun n hn => by have := h5' n hn; omega, by omega, by omega⟩
  rw [h3, ← h4, h3', ← h4']; rfl

theorem spec_all (xs : List V) (h : Shp.Vals [.st [.slc (.int .u32), .slc (.int .u32), .bool], .st [.slc (.int .u32), .slc (.int .u32), .bool], .st [.st [.bool, .slc (.int .u32)], .st [.bool, .slc (.int .u32)]]] xs) : Spec Tryz.prog 4 xs (.sc (.bool true)) := by
  obtain ⟨x0, ys0, rfl, h0, x1, ys1, rfl, h1, x2, ys2, rfl, h2, rfl⟩ := h
  obtain ⟨a, ha, ma, ka⟩ := from_shape h0
  obtain ⟨b, hb, mb, kb⟩ := from_shape h1
  obtain ⟨n1, l1, n2, l2, rfl, g1, g2, g3, g4⟩ := rat_shape h2
  exact rmatch_s x0 x1 a b ha hb ka kb ma mb l1 l2 n1 n2 g1 g2 (by unfold maxLen at g3; omega) (by unfold maxLen at g4; omega)

theorem own : ownKnob Tryz.prog.godebug = none := by kernel_rfl
theorem laidOut : laidOutB Tryz.prog = true := by kernel_rfl

set_option maxRecDepth 100000 in
theorem law_contract (H : Type) (enc : TypeId × Value → H) (W : World) (base : Nat) (args : Array Value) (ds gs : List (DataW H)) (before : List MemPlace)
    (hval : ∀ (j : Nat) t v, Tryz.f4.params[j]? = some t → args[j]? = some v → Value.okWide Tryz.prog W .any 0 t v)
    (hW : DataW.Whole enc Tryz.prog Tryz.f4.params.toList Rows.rationalMatchesReferenceSpec.vars false W args.toList ds gs before) (hL : laidMetH Tryz.prog Rows.rationalMatchesReferenceRow.laid W) :
    Calls Tryz.prog 4 args W fun e W' => ∃ v, e = .returned v ∧ Rows.rationalMatchesReferenceSpec.post enc Tryz.prog Tryz.f4 false true false false W args v W' := by
  have hW' := hW
  obtain ⟨p, q, hA0, hV, rfl, hfz, hnd⟩ := hW
  obtain ⟨hl, hc⟩ := law_calls (enc := enc) [.st [.slc (.int .u32), .slc (.int .u32), .bool], .st [.slc (.int .u32), .slc (.int .u32), .bool], .st [.st [.bool, .slc (.int .u32)], .st [.bool, .slc (.int .u32)]]] (by kernel_rfl) hval hA0 (tabs hL) spec_all
  refine hc.mono fun e W' ⟨he, hb⟩ => ?_
  subst he
  rw [show Tryz.f4.params.size = 3 by kernel_rfl] at hl
  obtain ⟨d0, d1, d2, rfl⟩ : ∃ d0 d1 d2, ds = [d0, d1, d2] := by
    match ds, hl with
    | [a0, a1, a2], _ => exact ⟨a0, a1, a2, rfl⟩
  exact ⟨_, rfl, law_post laidOut (by kernel_rfl) (by kernel_rfl) Tryz.underlying4 rfl rfl hW' hb⟩

theorem laid_met (os : Os) : laidMet Tryz.prog Rows.rationalMatchesReferenceRow.laid ((laidWorld os).forCall (fun _ _ => 0) ⟨#[], #[.agg #[.slice none 0 0, .slice none 0 0, .bool false], .agg #[.slice none 0 0, .slice none 0 0, .bool false], .agg #[.bool false, .slice none 0 0, .bool false, .slice none 0 0]], []⟩).memory :=
  laidMet_of_run' 8 (by kernel_rfl) (by kernel_rfl)
theorem wit_reads (os : Os) {H : Type} (enc : TypeId × Value → H) : ∃ places, DataW.whole enc Tryz.prog ((laidWorld os).forCall (fun _ _ => 0) ⟨#[], #[.agg #[.slice none 0 0, .slice none 0 0, .bool false], .agg #[.slice none 0 0, .slice none 0 0, .bool false], .agg #[.bool false, .slice none 0 0, .bool false, .slice none 0 0]], []⟩).memory Tryz.f4.params.toList Rows.rationalMatchesReferenceSpec.vars false (#[.agg #[.slice none 0 0, .slice none 0 0, .bool false], .agg #[.slice none 0 0, .slice none 0 0, .bool false], .agg #[.bool false, .slice none 0 0, .bool false, .slice none 0 0]] : Array Value).toList 8 = some ([.agg [.nil, .nil, .lit (.bool false)], .agg [.nil, .nil, .lit (.bool false)], .agg [.agg [.lit (.bool false), .nil], .agg [.lit (.bool false), .nil]]], [], places) :=
  ⟨[], by kernel_rfl⟩

set_option maxRecDepth 100000 in
theorem law_lifted (os : Os) (started : os.Started) (H : Type) (enc : TypeId × Value → H) (F : Stop.Interp) :
    ReturnsInHanded {} Tryz.checked os 4 .any ((OpenSpec.ofChange Rows.rationalMatchesReferenceSpec).preRow enc Tryz.prog Tryz.f4 Rows.rationalMatchesReferenceRow.domain false Rows.rationalMatchesReferenceRow.laid) (((OpenSpec.ofChange Rows.rationalMatchesReferenceSpec).at F).post enc Tryz.prog Tryz.f4 false true false false) := by
  obtain ⟨places, hx⟩ := wit_reads os enc
  refine returnsInHanded_of_row (C := Tryz.checked) (s := OpenSpec.ofChange Rows.rationalMatchesReferenceSpec) own started (by kernel_rfl) Tryz.func4
    (witness_row_at (enc := enc) (C := Tryz.checked) false (laidWorld os) #[.agg #[.slice none 0 0, .slice none 0 0, .bool false], .agg #[.slice none 0 0, .slice none 0 0, .bool false], .agg #[.bool false, .slice none 0 0, .bool false, .slice none 0 0]] rfl (by kernel_rfl) (by kernel_rfl) (by kernel_rfl)
      (OpenSpec.preRow_of_cond 8 hx (by kernel_rfl) (fun k hk => by cases hk) (by kernel_rfl) (laid_met os))) ?_
  intro W base args ds gs before hval hW _ _ _ hL _ _
  exact law_contract H enc W base args ds gs before hval hW hL

theorem said : Rows.RationalMatchesReferenceSaid :=
  OpenClaim.holds_of_cond 4 Tryz.f4 rfl rfl rfl rfl rfl rfl rfl ⟨rfl, rfl, rfl, rfl, rfl⟩ rfl rfl rfl rfl rfl (by kernel_rfl) Tryz.func4 (by kernel_rfl)
    (of_decide_eq_true (by kernel_rfl)) (by unfold Func.isWrapper; first | (rw [if_pos (by decide +kernel)]; kernel_rfl) | (rw [if_neg (by decide +kernel)]; exact ⟨rfl, rfl⟩))
    (fun os started H enc _ F => by rw [OpenClaim.pre_eq_preRow]; exact law_lifted os started H enc F)

/-- no parameter wants a stand-in; the program's own looks are off -/
theorem plain (f : FuncId) (fn : Func) (hf : Tryz.pinned.checked.prog.funcNamed "torsion/torsionlaw02.RationalMatchesReference" = some f) (hfn : Tryz.pinned.checked.prog.funcs[f]? = some fn) :
    false = Tryz.pinned.checked.prog.looks [] ∧ ∀ (j : Nat) t, fn.params[j]? = some t → Tryz.pinned.checked.prog.wantsStandIn t = false := by
  obtain rfl : f = 4 := Option.some.inj ((show Tryz.prog.funcNamed "torsion/torsionlaw02.RationalMatchesReference" = some 4 by kernel_rfl).symm.trans hf) |>.symm
  obtain rfl : fn = Tryz.f4 := (Option.some.inj (Tryz.func4.symm.trans hfn)).symm
  refine ⟨by kernel_rfl, fun j t ht => ?_⟩
  have hm : t ∈ Tryz.f4.params.toList := by simpa using Array.mem_of_getElem? ht
  have hall : (Tryz.f4.params.toList.all fun t => !Tryz.prog.wantsStandIn t) = true := by kernel_rfl
  have := List.all_eq_true.1 hall t hm
  exact (show Tryz.prog.wantsStandIn t = false by simpa using this)

theorem law_holds : Rows.RationalMatchesReferenceCardSaid :=
  Claim7.holds_tied_plain_at .later [] _ _ _ _ said (fun _ h => by cases h) (by kernel_rfl) (fun _ h => by cases h) rationalMatchesReference_row_tie rfl ⟨rfl, rfl⟩ (by kernel_rfl) rfl plain (by kernel_rfl)
#print axioms law_holds
end Go.Proofs.YtpodnbcdddcdmaaGreatDoor
