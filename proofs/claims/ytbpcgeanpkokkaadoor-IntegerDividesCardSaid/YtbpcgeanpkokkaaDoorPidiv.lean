/- 'IntegerDivides' returns true for every input, and each argument reads afterwards as it read before; the package-level tables as the program's text lays them. No other conditions. -/
import Derived.Test.YtbpcgeanpkokkaaDoorRows
import Derived.Test.YtbpcgeanpkokkaaDoorCards
import Derived.Test.YtbpcgeanpkokkaaDoorTie
import Derived.Test.YtbpcgeanpkokkaaDoorZc
import Derived.Test.YtbpcgeanpkokkaaDoorZd
import Derived.Test.YtbpcgeanpkokkaaDoorZf
import Derived.Test.YtbpcgeanpkokkaaDoorZh
set_option linter.all false

namespace Go.Proofs.YtbpcgeanpkokkaaDoor
open Go.ChangeShapes Go.WideShapes Go.ChangeAt Go.RowKit

set_option maxHeartbeats 4000000 in
theorem idiv_s (l1 l2 : List Nat) (b1 b2 : Bool) (h1 : limbs l1) (h2 : limbs l2) (e1 : l1.length ≤ 9223372036854775807) (e2 : l2.length ≤ 9223372036854775807) :
    Spec Tryd.prog 6 [.ag [.im (lv l1) l1.length, .sc (.bool b1)], .ag [.im (lv l2) l2.length, .sc (.bool b2)]] (.sc (.bool true)) := by
  have m1 := lawmade_s l1 _ b1 h1 rfl e1
  have m2 := lawmade_s l2 _ b2 h2 rfl e2
  have fa := (made12_fits h1 b1).mono (L := 100) (by omega)
  have fb := (made12_fits h2 b2).mono (L := 100) (by omega)
  generalize made12 l1 b1 = a at *
  generalize made12 l2 b2 = b at *
  have c2 := sign_i b 100 fb (by omega)
  have c0 := same_i 0 0 (by unfold Short; decide) (by unfold Short; decide)
  rw [decide_eq_true rfl] at c0
  by_cases hb : b = 0
  · subst hb
    have c1 := pdivmod_zero a 100 fa (by omega)
    have q1 : (((0 : Int).sign) == 0) = true := by decide
    unfold iv sv at *
    refine Spec.run Tryd.func6 rfl Tryd.ntmps6 (by simp) (by simp (disch := omega) only [go_sem, Nat.reduceAdd]; rfl) fun B hB => ?_
    (repeat (first | refine DO.nil (by kernel_rfl) ?_ | with_reducible refine SC.seq ?_ | with_reducible refine SC.skip ?_ | with_reducible refine SC.label ?_ | with_reducible refine SC.block ?_ | with_reducible refine SC.scope ?_ | with_reducible refine SC.nil ?_ | with_reducible refine SC.exit ?_ | with_reducible refine SC.ret ?_ | with_reducible refine SO.nil ?_ | with_reducible refine tq_normal ?_ | with_reducible refine bq_normal ?_ | with_reducible refine bq_same ?_ | with_reducible refine bq_other (by decide) ?_ | with_reducible refine tq_exit ?_ | with_reducible refine tq_ret ?_ | with_reducible refine bq_ret ?_ | with_reducible refine sq_normal ?_ | with_reducible refine sq_exit ?_ | with_reducible refine sq_ret ?_ | ((with_reducible apply SC.condB); (focus (simp (disch := omega) only [go_sem, ↓reduceIte]; rfl)); (first | refine pickT ?_ | refine pickF ?_)) | ((with_reducible apply SC.region); (focus (simp (disch := omega) only [go_sem, ↓reduceIte, Nat.reduceEqDiff, Nat.reduceLeDiff, Nat.reduceAdd, reduceCtorEq, beq_self_eq_true]; rfl))) | ((with_reducible refine SC.draw Tab.mixed ?_ ?_); (focus (first | rfl | simp (disch := omega) only [go_sem, ↓reduceIte, Nat.reduceEqDiff, Nat.reduceLT, Nat.reduceLeDiff, Nat.reduceAdd, Nat.reduceMul, Nat.reduceSub, reduceCtorEq, Nat.reduceBEq, Int.reduceToNat, Int.reducePow, if_pos, if_neg, beq_self_eq_true, q1]))) | (with_reducible refine SC.ops ?_) | ((first | apply SO.call | apply DO.call); (focus (simp (disch := omega) only [go_sem])); (focus (simp (disch := omega) only [go_sem, ↓reduceIte, Nat.reduceEqDiff]; rfl)); (focus (simp (disch := omega) only [go_sem, ↓reduceIte, Nat.reduceEqDiff, beq_self_eq_true] <;> rfl)); (first | (apply SCall.of; (focus (first | assumption | exact sanity_s)); (focus (simp (disch := omega) only [go_sem]; rfl))) | (apply DCall.of; (focus (first | assumption | exact sanity_s)); (focus (simp (disch := omega) only [go_sem]; rfl))) | (apply SCall.ofF; (focus (first | assumption | exact sanity_s)); (focus (simp (disch := omega) only [go_sem, ↓reduceIte, Nat.reduceEqDiff, Nat.reduceLT, Nat.reduceLeDiff, Nat.reduceAdd, Nat.reduceMul, Nat.reduceSub, reduceCtorEq, Nat.reduceBEq, Int.reduceToNat, Int.reducePow, if_pos, if_neg, beq_self_eq_true, q1]; rfl))))) | ((first | with_reducible apply SO.run | with_reducible apply DO.run); (focus (simp (disch := omega) only [go_sem, ↓reduceIte, Nat.reduceEqDiff, Nat.reduceLeDiff, Nat.reduceAdd, reduceCtorEq, beq_self_eq_true, q1]; rfl)))))
    exact retQ_ret Tryd.results6 (by simp (disch := omega) only [go_sem, ↓reduceIte]; rfl) (by simp (disch := omega) only [go_sem]; rfl) rfl
  · have c1 := pdivmod_i a b 100 fa fb (by omega) hb
    have c3 := mul_i a b 100 fa fb (by omega)
    have fab := fa.mul fb
    have c4 := pdivmod_i (a * b) b 200 fab (fb.mono (by omega)) (by omega) hb
    rw [Int.mul_ediv_cancel _ hb, Int.mul_emod_left] at c4
    have hr0 : 0 ≤ a % b := Int.emod_nonneg _ hb
    have hr1 : a % b < b.natAbs := by have := Int.emod_lt a hb; omega
    have fr : Fits 100 (a % b) := by unfold Fits at *; omega
    have fq : Fits 100 (a / b) := by
      have := Int.natAbs_ediv_le_natAbs a b
      unfold Fits at *; omega
    have c5 := sign_i (a % b) 100 fr (by omega)
    have c6 := made_nat b.natAbs (by have := fits_len fb; omega)
    have fbn : Fits 100 (b.natAbs : Int) := by unfold Fits at *; simpa using fb
    have c7 := cmp_i (a % b) b.natAbs 100 fr fbn (by omega)
    rw [Int.sign_eq_neg_one_of_neg (by omega)] at c7
    have c8 := rvalid_i (a / b) 100 fq (by omega)
    have c9 := rvalid_i (a % b) 100 fr (by omega)
    have c10 := mul_i (a / b) b 100 fq fb (by omega)
    have c11 := add_i (a / b * b) (a % b) 200 (fq.mul fb) (fr.mono (by omega)) (by omega)
    rw [Int.mul_comm, Int.mul_ediv_add_emod] at c11
    have c12 := same_i a a (fits_short fa (by omega)) (fits_short fa (by omega))
    rw [decide_eq_true rfl] at c12
    have c13 := sign_i 0 100 (by unfold Fits; exact Nat.pow_pos (by omega)) (by omega)
    rw [Int.mul_comm] at c10
    have q1 : (b.sign == 0) = false := by rw [beq_eq_false_iff_ne]; exact fun h => hb (Int.sign_eq_zero_iff_zero.1 h)
    have q2 : decide (0 ≤ (a % b).sign) = true := by
      rw [decide_eq_true_eq]
      rcases Int.lt_or_eq_of_le hr0 with e | e
      · rw [Int.sign_eq_one_of_pos e]; omega
      · rw [← e]; decide
    have q3 : decide ((-1 : Int) < 0) = true := by decide
    have q4 : (((0 : Int).sign) == 0) = true := by decide
    generalize b.sign = sb at *
    generalize (a % b).sign = sr at *
    unfold iv sv at *
    refine Spec.run Tryd.func6 rfl Tryd.ntmps6 (by simp) (by simp (disch := omega) only [go_sem, Nat.reduceAdd]; rfl) fun B hB => ?_
    (repeat (first | refine DO.nil (by kernel_rfl) ?_ | with_reducible refine SC.seq ?_ | with_reducible refine SC.skip ?_ | with_reducible refine SC.label ?_ | with_reducible refine SC.block ?_ | with_reducible refine SC.scope ?_ | with_reducible refine SC.nil ?_ | with_reducible refine SC.exit ?_ | with_reducible refine SC.ret ?_ | with_reducible refine SO.nil ?_ | with_reducible refine tq_normal ?_ | with_reducible refine bq_normal ?_ | with_reducible refine bq_same ?_ | with_reducible refine bq_other (by decide) ?_ | with_reducible refine tq_exit ?_ | with_reducible refine tq_ret ?_ | with_reducible refine bq_ret ?_ | with_reducible refine sq_normal ?_ | with_reducible refine sq_exit ?_ | with_reducible refine sq_ret ?_ | ((with_reducible apply SC.condB); (focus (simp (disch := omega) only [go_sem, ↓reduceIte]; rfl)); (first | refine pickT ?_ | refine pickF ?_)) | ((with_reducible apply SC.region); (focus (simp (disch := omega) only [go_sem, ↓reduceIte, Nat.reduceEqDiff, Nat.reduceLeDiff, Nat.reduceAdd, reduceCtorEq]; rfl))) | ((with_reducible refine SC.draw Tab.mixed ?_ ?_); (focus (first | rfl | simp (disch := omega) only [go_sem, ↓reduceIte, Nat.reduceEqDiff, Nat.reduceLT, Nat.reduceLeDiff, Nat.reduceAdd, Nat.reduceMul, Nat.reduceSub, reduceCtorEq, Nat.reduceBEq, Int.reduceToNat, Int.reducePow, if_pos, if_neg, beq_self_eq_true, q1, q2, q3, q4]))) | (with_reducible refine SC.ops ?_) | ((first | apply SO.call | apply DO.call); (focus (simp (disch := omega) only [go_sem])); (focus (simp (disch := omega) only [go_sem, ↓reduceIte, Nat.reduceEqDiff]; rfl)); (focus (simp (disch := omega) only [go_sem, ↓reduceIte, Nat.reduceEqDiff, beq_self_eq_true] <;> rfl)); (first | (apply SCall.of; (focus (first | assumption | exact sanity_s)); (focus (simp (disch := omega) only [go_sem]; rfl))) | (apply DCall.of; (focus (first | assumption | exact sanity_s)); (focus (simp (disch := omega) only [go_sem]; rfl))) | (apply SCall.ofF; (focus (first | assumption | exact sanity_s)); (focus (simp (disch := omega) only [go_sem, ↓reduceIte, Nat.reduceEqDiff, Nat.reduceLT, Nat.reduceLeDiff, Nat.reduceAdd, Nat.reduceMul, Nat.reduceSub, reduceCtorEq, Nat.reduceBEq, Int.reduceToNat, Int.reducePow, if_pos, if_neg, beq_self_eq_true, q1, q2, q3, q4]; rfl))))) | ((first | with_reducible apply SO.run | with_reducible apply DO.run); (focus (simp (disch := omega) only [go_sem, ↓reduceIte, Nat.reduceEqDiff, Nat.reduceLT, Nat.reduceLeDiff, Nat.reduceAdd, reduceCtorEq, beq_self_eq_true, q1, q2, q3, q4]; rfl)))))
    exact retQ_ret Tryd.results6 (by simp (disch := omega) only [go_sem, ↓reduceIte]; rfl) (by simp (disch := omega) only [go_sem]; rfl) rfl

theorem spec_all (xs : List V) (h : Shp.Vals [.st [.slc (.int .u32), .bool], .st [.slc (.int .u32), .bool]] xs) : Spec Tryd.prog 6 xs (.sc (.bool true)) := by
  obtain ⟨x0, ys0, rfl, h0, x1, ys1, rfl, h1, rfl⟩ := h
  obtain ⟨l0, b0, rfl, hl0, hm0⟩ := number_shape h0
  obtain ⟨l1, b1, rfl, hl1, hm1⟩ := number_shape h1
  exact idiv_s l0 l1 b0 b1 hl0 hl1 (by unfold maxLen at hm0; omega) (by unfold maxLen at hm1; omega)

theorem own : ownKnob Tryd.prog.godebug = none := by kernel_rfl
theorem laidOut : laidOutB Tryd.prog = true := by kernel_rfl

set_option maxRecDepth 100000 in
theorem law_contract (H : Type) (enc : TypeId × Value → H) (W : World) (base : Nat) (args : Array Value) (ds gs : List (DataW H)) (before : List MemPlace)
    (hval : ∀ (j : Nat) t v, Tryd.f6.params[j]? = some t → args[j]? = some v → Value.okWide Tryd.prog W .any 0 t v)
    (hW : DataW.Whole enc Tryd.prog Tryd.f6.params.toList Rows.integerDividesSpec.vars false W args.toList ds gs before) (hL : laidMetH Tryd.prog Rows.integerDividesRow.laid W) :
    Calls Tryd.prog 6 args W fun e W' => ∃ v, e = .returned v ∧ Rows.integerDividesSpec.post enc Tryd.prog Tryd.f6 false true false false W args v W' := by
  have hW' := hW
  obtain ⟨p, q, hA0, hV, rfl, hfz, hnd⟩ := hW
  obtain ⟨hl, hc⟩ := law_calls (enc := enc) [.st [.slc (.int .u32), .bool], .st [.slc (.int .u32), .bool]] (by kernel_rfl) hval hA0 (tabs hL) spec_all
  refine hc.mono fun e W' ⟨he, hb⟩ => ?_
  subst he
  rw [show Tryd.f6.params.size = 2 by kernel_rfl] at hl
  obtain ⟨d0, d1, rfl⟩ : ∃ d0 d1, ds = [d0, d1] := by
    match ds, hl with
    | [a0, a1], _ => exact ⟨a0, a1, rfl⟩
  exact ⟨_, rfl, law_post laidOut (by kernel_rfl) (by kernel_rfl) Tryd.underlying4 rfl rfl hW' hb⟩

theorem laid_met (os : Os) : laidMet Tryd.prog Rows.integerDividesRow.laid ((laidWorld os).forCall (fun _ _ => 0) ⟨#[], #[.agg #[.slice none 0 0, .bool false], .agg #[.slice none 0 0, .bool false]], []⟩).memory :=
  laidMet_of_run' 8 (by kernel_rfl) (by kernel_rfl)
theorem wit_reads (os : Os) {H : Type} (enc : TypeId × Value → H) : ∃ places, DataW.whole enc Tryd.prog ((laidWorld os).forCall (fun _ _ => 0) ⟨#[], #[.agg #[.slice none 0 0, .bool false], .agg #[.slice none 0 0, .bool false]], []⟩).memory Tryd.f6.params.toList Rows.integerDividesSpec.vars false (#[.agg #[.slice none 0 0, .bool false], .agg #[.slice none 0 0, .bool false]] : Array Value).toList 8 = some ([.agg [.nil, .lit (.bool false)], .agg [.nil, .lit (.bool false)]], [], places) :=
  ⟨[], by kernel_rfl⟩

set_option maxRecDepth 100000 in
theorem law_lifted (os : Os) (started : os.Started) (H : Type) (enc : TypeId × Value → H) (F : Stop.Interp) :
    ReturnsInHanded {} Tryd.checked os 6 .any ((OpenSpec.ofChange Rows.integerDividesSpec).preRow enc Tryd.prog Tryd.f6 Rows.integerDividesRow.domain false Rows.integerDividesRow.laid) (((OpenSpec.ofChange Rows.integerDividesSpec).at F).post enc Tryd.prog Tryd.f6 false true false false) := by
  obtain ⟨places, hx⟩ := wit_reads os enc
  refine returnsInHanded_of_row (C := Tryd.checked) (s := OpenSpec.ofChange Rows.integerDividesSpec) own started (by kernel_rfl) Tryd.func6
    (witness_row_at (enc := enc) (C := Tryd.checked) false (laidWorld os) #[.agg #[.slice none 0 0, .bool false], .agg #[.slice none 0 0, .bool false]] rfl (by kernel_rfl) (by kernel_rfl) (by kernel_rfl)
      (OpenSpec.preRow_of_cond 8 hx (by kernel_rfl) (fun k hk => by cases hk) (by kernel_rfl) (laid_met os))) ?_
  intro W base args ds gs before hval hW _ _ _ hL _ _
  exact law_contract H enc W base args ds gs before hval hW hL

theorem said : Rows.IntegerDividesSaid :=
  OpenClaim.holds_of_cond 6 Tryd.f6 rfl rfl rfl rfl rfl rfl rfl ⟨rfl, rfl, rfl, rfl, rfl⟩ rfl rfl rfl rfl rfl (by kernel_rfl) Tryd.func6 (by kernel_rfl)
    (of_decide_eq_true (by kernel_rfl)) (by unfold Func.isWrapper; first | (rw [if_pos (by decide +kernel)]; kernel_rfl) | (rw [if_neg (by decide +kernel)]; exact ⟨rfl, rfl⟩))
    (fun os started H enc _ F => by rw [OpenClaim.pre_eq_preRow]; exact law_lifted os started H enc F)

/-- no parameter wants a stand-in; the program's own looks are off -/
theorem plain (f : FuncId) (fn : Func) (hf : Tryd.pinned.checked.prog.funcNamed "torsion/torsionlaw01.IntegerDivides" = some f) (hfn : Tryd.pinned.checked.prog.funcs[f]? = some fn) :
    false = Tryd.pinned.checked.prog.looks [] ∧ ∀ (j : Nat) t, fn.params[j]? = some t → Tryd.pinned.checked.prog.wantsStandIn t = false := by
  obtain rfl : f = 6 := Option.some.inj ((show Tryd.prog.funcNamed "torsion/torsionlaw01.IntegerDivides" = some 6 by kernel_rfl).symm.trans hf) |>.symm
  obtain rfl : fn = Tryd.f6 := (Option.some.inj (Tryd.func6.symm.trans hfn)).symm
  refine ⟨by kernel_rfl, fun j t ht => ?_⟩
  have hm : t ∈ Tryd.f6.params.toList := by simpa using Array.mem_of_getElem? ht
  have hall : (Tryd.f6.params.toList.all fun t => !Tryd.prog.wantsStandIn t) = true := by kernel_rfl
  have := List.all_eq_true.1 hall t hm
  exact (show Tryd.prog.wantsStandIn t = false by simpa using this)

theorem law_holds : Rows.IntegerDividesCardSaid :=
  Claim7.holds_tied_plain_at .later [] _ _ _ _ said (fun _ h => by cases h) (by kernel_rfl) (fun _ h => by cases h) integerDivides_row_tie rfl ⟨rfl, rfl⟩ (by kernel_rfl) rfl plain (by kernel_rfl)
#print axioms law_holds
end Go.Proofs.YtbpcgeanpkokkaaDoor
