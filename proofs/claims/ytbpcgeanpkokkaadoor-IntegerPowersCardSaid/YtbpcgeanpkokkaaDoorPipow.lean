/- 'IntegerPowers' returns true for every input, and each argument reads afterwards as it read before; the package-level tables as the program's text lays them. No other conditions. -/
import Derived.Test.YtbpcgeanpkokkaaDoorRows
import Derived.Test.YtbpcgeanpkokkaaDoorCards
import Derived.Test.YtbpcgeanpkokkaaDoorTie
import Derived.Test.YtbpcgeanpkokkaaDoorZc
import Derived.Test.YtbpcgeanpkokkaaDoorZd
import Derived.Test.YtbpcgeanpkokkaaDoorZf
import Derived.Test.YtbpcgeanpkokkaaDoorZh
set_option linter.all false

namespace Go.Proofs.YtbpcgeanpkokkaaDoor
open Go.ChangeShapes Go.WideShapes Go.ChangeAt Go.RowKit

set_option maxHeartbeats 8000000 in
theorem ipow_s (l1 l2 : List Nat) (b1 b2 : Bool) (h1 : limbs l1) (h2 : limbs l2) (e1 : l1.length ≤ 9223372036854775807) (e2 : l2.length ≤ 9223372036854775807) (w0 w1 : Int) (hw0 : -9223372036854775808 ≤ w0 ∧ w0 ≤ 9223372036854775807) (hw1 : -9223372036854775808 ≤ w1 ∧ w1 ≤ 9223372036854775807) :
    Spec Tryd.prog 8 [.ag [.im (lv l1) l1.length, .sc (.bool b1)], .ag [.im (lv l2) l2.length, .sc (.bool b2)], .ag [.sc (.int .i64 w0), .sc (.int .i64 w1)]] (.sc (.bool true)) := by
  have k1 := take_le l1 2
  have k2 := take_le l2 1
  have m1 := lawmade_s (l1.take 2) _ b1 (limbs_take h1 2) rfl (by omega)
  have m2 := lawmade_s (l2.take 1) _ b2 (limbs_take h2 1) rfl (by omega)
  have fa := made12_take h1 2 b1
  have fb := (made12_take h2 1 b2).mono (L := 2) (by omega)
  generalize made12 (l1.take 2) b1 = a at *
  generalize made12 (l2.take 1) b2 = b at *
  have g1 := min_take l1 2
  have g2 := min_take l2 1
  simp only [Int.cast_ofNat_Int] at g1 g2
  have u1 := take_take_len l1 2
  have u2 := take_take_len l2 1
  have hw0l := hw0.1
  have hw0u := hw0.2
  have hw1l := hw1.1
  have hw1u := hw1.2
  by_cases hbad : w0 < 0 ∨ 256 < w0
  · have c1 := ppow_err a w0 hbad
    have q0 : ((1 : Int) != 0) = true := by decide
    unfold iv sv at *
    by_cases hn : w0 < 0
    · have q1 := decide_eq_true hn
      refine Spec.run Tryd.func8 rfl Tryd.ntmps8 (by simp) (by simp (disch := omega) only [go_sem, Nat.reduceAdd]; rfl) fun B hB => ?_
      (repeat (first | refine DO.nil (by kernel_rfl) ?_ | with_reducible refine SC.seq ?_ | with_reducible refine SC.skip ?_ | with_reducible refine SC.label ?_ | with_reducible refine SC.block ?_ | with_reducible refine SC.scope ?_ | with_reducible refine SC.nil ?_ | with_reducible refine SC.exit ?_ | with_reducible refine SC.ret ?_ | with_reducible refine SO.nil ?_ | with_reducible refine tq_normal ?_ | with_reducible refine bq_normal ?_ | with_reducible refine bq_same ?_ | with_reducible refine bq_other (by decide) ?_ | with_reducible refine tq_exit ?_ | with_reducible refine tq_ret ?_ | with_reducible refine bq_ret ?_ | with_reducible refine sq_normal ?_ | with_reducible refine sq_exit ?_ | with_reducible refine sq_ret ?_ | ((with_reducible apply SC.condB); (focus (simp (disch := omega) only [go_sem, ↓reduceIte]; rfl)); (first | refine pickT ?_ | refine pickF ?_)) | ((with_reducible apply SC.region); (focus (simp (disch := omega) only [go_sem, ↓reduceIte, Nat.reduceEqDiff, Nat.reduceLeDiff, Nat.reduceAdd, reduceCtorEq, Int.reduceToNat, if_pos, beq_self_eq_true, q0, q1]; rfl))) | ((with_reducible refine SC.draw Tab.mixed ?_ ?_); (focus (first | rfl | simp (disch := omega) only [go_sem, ↓reduceIte, Nat.reduceEqDiff, Nat.reduceLT, Nat.reduceLeDiff, Nat.reduceAdd, Nat.reduceMul, Nat.reduceSub, reduceCtorEq, Nat.reduceBEq, Int.reduceToNat, Int.reducePow, if_pos, if_neg, beq_self_eq_true, q0, q1, g1, g2, u1, u2, lv_len, lv_take]))) | (with_reducible refine SC.ops ?_) | ((first | apply SO.call | apply DO.call); (focus (simp (disch := omega) only [go_sem])); (focus (simp (disch := omega) only [go_sem, ↓reduceIte, Nat.reduceEqDiff]; rfl)); (focus (simp (disch := omega) only [go_sem] <;> rfl)); (first | (apply SCall.of; (focus (first | assumption | exact sanity_s)); (focus (simp (disch := omega) only [go_sem]; rfl))) | (apply DCall.of; (focus (first | assumption | exact sanity_s)); (focus (simp (disch := omega) only [go_sem]; rfl))) | (apply SCall.ofF; (focus (first | assumption | exact sanity_s)); (focus (simp (disch := omega) only [go_sem, ↓reduceIte, Nat.reduceEqDiff, Nat.reduceLT, Nat.reduceLeDiff, Nat.reduceAdd, Nat.reduceMul, Nat.reduceSub, reduceCtorEq, Nat.reduceBEq, Int.reduceToNat, Int.reducePow, if_pos, if_neg, beq_self_eq_true, q0, q1, g1, g2, u1, u2, lv_len, lv_take]; rfl))))) | ((first | with_reducible apply SO.run | with_reducible apply DO.run); (focus (simp (disch := omega) only [go_sem, ↓reduceIte, Nat.reduceEqDiff, Nat.reduceLeDiff, Nat.reduceAdd, reduceCtorEq, Int.reduceToNat, if_pos, g1, g2, u1, u2, lv_take]; rfl)))))
      exact retQ_ret Tryd.results8 (by simp (disch := omega) only [go_sem, ↓reduceIte]; rfl) (by simp (disch := omega) only [go_sem]; rfl) rfl
    · have q1 := decide_eq_false hn
      have q2 := decide_eq_true (p := 256 < w0) (by omega)
      refine Spec.run Tryd.func8 rfl Tryd.ntmps8 (by simp) (by simp (disch := omega) only [go_sem, Nat.reduceAdd]; rfl) fun B hB => ?_
      (repeat (first | refine DO.nil (by kernel_rfl) ?_ | with_reducible refine SC.seq ?_ | with_reducible refine SC.skip ?_ | with_reducible refine SC.label ?_ | with_reducible refine SC.block ?_ | with_reducible refine SC.scope ?_ | with_reducible refine SC.nil ?_ | with_reducible refine SC.exit ?_ | with_reducible refine SC.ret ?_ | with_reducible refine SO.nil ?_ | with_reducible refine tq_normal ?_ | with_reducible refine bq_normal ?_ | with_reducible refine bq_same ?_ | with_reducible refine bq_other (by decide) ?_ | with_reducible refine tq_exit ?_ | with_reducible refine tq_ret ?_ | with_reducible refine bq_ret ?_ | with_reducible refine sq_normal ?_ | with_reducible refine sq_exit ?_ | with_reducible refine sq_ret ?_ | ((with_reducible apply SC.condB); (focus (simp (disch := omega) only [go_sem, ↓reduceIte]; rfl)); (first | refine pickT ?_ | refine pickF ?_)) | ((with_reducible apply SC.region); (focus (simp (disch := omega) only [go_sem, ↓reduceIte, Nat.reduceEqDiff, Nat.reduceLeDiff, Nat.reduceAdd, reduceCtorEq, Int.reduceToNat, if_pos, beq_self_eq_true, q0, q1, q2]; rfl))) | ((with_reducible refine SC.draw Tab.mixed ?_ ?_); (focus (first | rfl | simp (disch := omega) only [go_sem, ↓reduceIte, Nat.reduceEqDiff, Nat.reduceLT, Nat.reduceLeDiff, Nat.reduceAdd, Nat.reduceMul, Nat.reduceSub, reduceCtorEq, Nat.reduceBEq, Int.reduceToNat, Int.reducePow, if_pos, if_neg, beq_self_eq_true, q0, q1, q2, g1, g2, u1, u2, lv_len, lv_take]))) | (with_reducible refine SC.ops ?_) | ((first | apply SO.call | apply DO.call); (focus (simp (disch := omega) only [go_sem])); (focus (simp (disch := omega) only [go_sem, ↓reduceIte, Nat.reduceEqDiff]; rfl)); (focus (simp (disch := omega) only [go_sem] <;> rfl)); (first | (apply SCall.of; (focus (first | assumption | exact sanity_s)); (focus (simp (disch := omega) only [go_sem]; rfl))) | (apply DCall.of; (focus (first | assumption | exact sanity_s)); (focus (simp (disch := omega) only [go_sem]; rfl))) | (apply SCall.ofF; (focus (first | assumption | exact sanity_s)); (focus (simp (disch := omega) only [go_sem, ↓reduceIte, Nat.reduceEqDiff, Nat.reduceLT, Nat.reduceLeDiff, Nat.reduceAdd, Nat.reduceMul, Nat.reduceSub, reduceCtorEq, Nat.reduceBEq, Int.reduceToNat, Int.reducePow, if_pos, if_neg, beq_self_eq_true, q0, q1, q2, g1, g2, u1, u2, lv_len, lv_take]; rfl))))) | ((first | with_reducible apply SO.run | with_reducible apply DO.run); (focus (simp (disch := omega) only [go_sem, ↓reduceIte, Nat.reduceEqDiff, Nat.reduceLeDiff, Nat.reduceAdd, reduceCtorEq, Int.reduceToNat, if_pos, g1, g2, u1, u2, lv_take]; rfl)))))
      exact retQ_ret Tryd.results8 (by simp (disch := omega) only [go_sem, ↓reduceIte]; rfl) (by simp (disch := omega) only [go_sem]; rfl) rfl
  · obtain ⟨n, rfl⟩ := Int.eq_ofNat_of_zero_le (show 0 ≤ w0 by omega)
    have hn : n ≤ 256 := by omega
    have q0 : ((0 : Int) != 0) = false := by decide
    have q1 := decide_eq_false (p := (n : Int) < 0) (by omega)
    have q2 := decide_eq_false (p := 256 < (n : Int)) (by omega)
    have c1 := ppow_i a n 2 fa hn (by omega)
    have e3 : (n : Int).tmod 20 = ((n % 20 : Nat) : Int) := (Int.ofNat_tmod n 20).symm
    have hm : n % 20 < 20 := by omega
    generalize n % 20 = m at *
    obtain ⟨k, hk⟩ : ∃ k : Nat, (IntKind.u64.wrap w1) = (k : Int) := ⟨(IntKind.u64.wrap w1).toNat, by simp [IntKind.wrap, IntKind.bits, IntKind.signed]; omega⟩
    have e4 : (k : Int).tmod 20 = ((k % 20 : Nat) : Int) := (Int.ofNat_tmod k 20).symm
    have hk20 : k % 20 < 20 := by omega
    generalize k % 20 = j at *
    have c2 := ppow_i a m 2 fa (by omega) (by omega)
    have c3 := ppow_i a j 2 fa (by omega) (by omega)
    have c4 := ppow_i a (m + j) 2 fa (by omega) (by omega)
    have c5 := ppow_i b m 2 fb (by omega) (by omega)
    have c6 := mul_i a b 2 fa fb (by omega)
    have fab := fa.mul fb
    have c7 := ppow_i (a * b) m 4 fab (by omega) (by omega)
    have c8 := rpow_i a m 2 fa (by omega) (by omega)
    have f1 : Fits 200 (a ^ m) := (fa.pow m).mono (by omega)
    have f2 : Fits 200 (a ^ j) := (fa.pow j).mono (by omega)
    have f3 : Fits 200 (a ^ (m + j)) := (fa.pow (m + j)).mono (by omega)
    have f4 : Fits 200 (b ^ m) := (fb.pow m).mono (by omega)
    have f5 : Fits 200 ((a * b) ^ m) := (fab.pow m).mono (by omega)
    have c9 := same_i (a ^ m) (a ^ m) (fits_short f1 (by omega)) (fits_short f1 (by omega))
    have c10 := mul_i (a ^ m) (a ^ j) 200 f1 f2 (by omega)
    rw [← Int.pow_add] at c10
    have c11 := same_i (a ^ (m + j)) (a ^ (m + j)) (fits_short f3 (by omega)) (fits_short f3 (by omega))
    have c12 := mul_i (a ^ m) (b ^ m) 200 f1 f4 (by omega)
    rw [← Int.mul_pow] at c12
    have c13 := same_i ((a * b) ^ m) ((a * b) ^ m) (fits_short f5 (by omega)) (fits_short f5 (by omega))
    rw [decide_eq_true rfl] at c9 c11 c13
    have e5 : (m : Int) + (j : Int) = ((m + j : Nat) : Int) := by simp
    unfold iv sv at *
    generalize a ^ m = p1 at *
    generalize a ^ j = p2 at *
    generalize a ^ (m + j) = p3 at *
    generalize b ^ m = p4 at *
    generalize (a * b) ^ m = p5 at *
    refine Spec.run Tryd.func8 rfl Tryd.ntmps8 (by simp) (by simp (disch := omega) only [go_sem, Nat.reduceAdd]; rfl) fun B hB => ?_
    (repeat (first | refine DO.nil (by kernel_rfl) ?_ | with_reducible refine SC.seq ?_ | with_reducible refine SC.skip ?_ | with_reducible refine SC.label ?_ | with_reducible refine SC.block ?_ | with_reducible refine SC.scope ?_ | with_reducible refine SC.nil ?_ | with_reducible refine SC.exit ?_ | with_reducible refine SC.ret ?_ | with_reducible refine SO.nil ?_ | with_reducible refine tq_normal ?_ | with_reducible refine bq_normal ?_ | with_reducible refine bq_same ?_ | with_reducible refine bq_other (by decide) ?_ | with_reducible refine tq_exit ?_ | with_reducible refine tq_ret ?_ | with_reducible refine bq_ret ?_ | with_reducible refine sq_normal ?_ | with_reducible refine sq_exit ?_ | with_reducible refine sq_ret ?_ | ((with_reducible apply SC.condB); (focus (simp (disch := omega) only [go_sem, ↓reduceIte]; rfl)); (first | refine pickT ?_ | refine pickF ?_)) | ((with_reducible apply SC.region); (focus (simp (disch := omega) only [go_sem, ↓reduceIte, Nat.reduceEqDiff, Nat.reduceLeDiff, Nat.reduceAdd, reduceCtorEq, Int.reduceToNat, if_pos, beq_self_eq_true, q0, q1, q2, e5]; rfl))) | ((with_reducible refine SC.draw Tab.mixed ?_ ?_); (focus (first | rfl | simp (disch := omega) only [go_sem, ↓reduceIte, Nat.reduceEqDiff, Nat.reduceLT, Nat.reduceLeDiff, Nat.reduceAdd, Nat.reduceMul, Nat.reduceSub, reduceCtorEq, Nat.reduceBEq, Int.reduceToNat, Int.reducePow, if_pos, if_neg, beq_self_eq_true, q0, q1, q2, e3, hk, e4, e5, g1, g2, u1, u2, lv_len, lv_take]))) | (with_reducible refine SC.ops ?_) | ((first | apply SO.call | apply DO.call); (focus (simp (disch := omega) only [go_sem])); (focus (simp (disch := omega) only [go_sem, ↓reduceIte, Nat.reduceEqDiff]; rfl)); (focus (simp (disch := omega) only [go_sem, ↓reduceIte, Nat.reduceEqDiff, beq_self_eq_true] <;> rfl)); (first | (apply SCall.of; (focus (first | assumption | exact sanity_s)); (focus (simp (disch := omega) only [go_sem]; rfl))) | (apply DCall.of; (focus (first | assumption | exact sanity_s)); (focus (simp (disch := omega) only [go_sem]; rfl))) | (apply SCall.ofF; (focus (first | assumption | exact sanity_s)); (focus (simp (disch := omega) only [go_sem, ↓reduceIte, Nat.reduceEqDiff, Nat.reduceLT, Nat.reduceLeDiff, Nat.reduceAdd, Nat.reduceMul, Nat.reduceSub, reduceCtorEq, Nat.reduceBEq, Int.reduceToNat, Int.reducePow, if_pos, if_neg, beq_self_eq_true, q0, q1, q2, e3, hk, e4, e5, g1, g2, u1, u2, lv_len, lv_take]; rfl))))) | ((first | with_reducible apply SO.run | with_reducible apply DO.run); (focus (simp (disch := omega) only [go_sem, ↓reduceIte, Nat.reduceEqDiff, Nat.reduceLT, Nat.reduceLeDiff, Nat.reduceAdd, reduceCtorEq, Int.reduceToNat, if_pos, if_neg, beq_self_eq_true, e3, hk, e4, e5, g1, g2, u1, u2, lv_take]; rfl)))))
    trace_state
    exact retQ_ret Tryd.results8 (by simp (disch := omega) only [go_sem, ↓reduceIte]; rfl) (by simp (disch := omega) only [go_sem]; rfl) rfl

theorem spec_all (xs : List V) (h : Shp.Vals [.st [.slc (.int .u32), .bool], .st [.slc (.int .u32), .bool], .arr 2 (.int .i64)] xs) : Spec Tryd.prog 8 xs (.sc (.bool true)) := by
  obtain ⟨x0, ys0, rfl, h0, x1, ys1, rfl, h1, x2, ys2, rfl, h2, rfl⟩ := h
  obtain ⟨l0, b0, rfl, hl0, hm0⟩ := number_shape h0
  obtain ⟨l1, b1, rfl, hl1, hm1⟩ := number_shape h1
  obtain ⟨ys, rfl, yss, hy1, rfl, hy2⟩ := h2
  match yss, hy1 with
  | [z0, z1], _ =>
    obtain ⟨n0, rfl, hn0⟩ := hy2 z0 (by simp)
    obtain ⟨n1, rfl, hn1⟩ := hy2 z1 (by simp)
    exact ipow_s l0 l1 b0 b1 hl0 hl1 (by unfold maxLen at hm0; omega) (by unfold maxLen at hm1; omega) n0 n1 (i64_wf _ hn0) (i64_wf _ hn1)

theorem own : ownKnob Tryd.prog.godebug = none := by kernel_rfl
theorem laidOut : laidOutB Tryd.prog = true := by kernel_rfl

set_option maxRecDepth 100000 in
theorem law_contract (H : Type) (enc : TypeId × Value → H) (W : World) (base : Nat) (args : Array Value) (ds gs : List (DataW H)) (before : List MemPlace)
    (hval : ∀ (j : Nat) t v, Tryd.f8.params[j]? = some t → args[j]? = some v → Value.okWide Tryd.prog W .any 0 t v)
    (hW : DataW.Whole enc Tryd.prog Tryd.f8.params.toList Rows.integerPowersSpec.vars false W args.toList ds gs before) (hL : laidMetH Tryd.prog Rows.integerPowersRow.laid W) :
    Calls Tryd.prog 8 args W fun e W' => ∃ v, e = .returned v ∧ Rows.integerPowersSpec.post enc Tryd.prog Tryd.f8 false true false false W args v W' := by
  have hW' := hW
  obtain ⟨p, q, hA0, hV, rfl, hfz, hnd⟩ := hW
  obtain ⟨hl, hc⟩ := law_calls (enc := enc) [.st [.slc (.int .u32), .bool], .st [.slc (.int .u32), .bool], .arr 2 (.int .i64)] (by kernel_rfl) hval hA0 (tabs hL) spec_all
  refine hc.mono fun e W' ⟨he, hb⟩ => ?_
  subst he
  rw [show Tryd.f8.params.size = 3 by kernel_rfl] at hl
  obtain ⟨d0, d1, d2, rfl⟩ : ∃ d0 d1 d2, ds = [d0, d1, d2] := by
    match ds, hl with
    | [a0, a1, a2], _ => exact ⟨a0, a1, a2, rfl⟩
  exact ⟨_, rfl, law_post laidOut (by kernel_rfl) (by kernel_rfl) Tryd.underlying4 rfl rfl hW' hb⟩

theorem laid_met (os : Os) : laidMet Tryd.prog Rows.integerPowersRow.laid ((laidWorld os).forCall (fun _ _ => 0) ⟨#[], #[.agg #[.slice none 0 0, .bool false], .agg #[.slice none 0 0, .bool false], .agg #[.int .i64 0, .int .i64 0]], []⟩).memory :=
  laidMet_of_run' 8 (by kernel_rfl) (by kernel_rfl)
theorem wit_reads (os : Os) {H : Type} (enc : TypeId × Value → H) : ∃ places, DataW.whole enc Tryd.prog ((laidWorld os).forCall (fun _ _ => 0) ⟨#[], #[.agg #[.slice none 0 0, .bool false], .agg #[.slice none 0 0, .bool false], .agg #[.int .i64 0, .int .i64 0]], []⟩).memory Tryd.f8.params.toList Rows.integerPowersSpec.vars false (#[.agg #[.slice none 0 0, .bool false], .agg #[.slice none 0 0, .bool false], .agg #[.int .i64 0, .int .i64 0]] : Array Value).toList 8 = some ([.agg [.nil, .lit (.bool false)], .agg [.nil, .lit (.bool false)], .agg [.lit (.int .i64 0), .lit (.int .i64 0)]], [], places) :=
  ⟨[], by kernel_rfl⟩

set_option maxRecDepth 100000 in
theorem law_lifted (os : Os) (started : os.Started) (H : Type) (enc : TypeId × Value → H) (F : Stop.Interp) :
    ReturnsInHanded {} Tryd.checked os 8 .any ((OpenSpec.ofChange Rows.integerPowersSpec).preRow enc Tryd.prog Tryd.f8 Rows.integerPowersRow.domain false Rows.integerPowersRow.laid) (((OpenSpec.ofChange Rows.integerPowersSpec).at F).post enc Tryd.prog Tryd.f8 false true false false) := by
  obtain ⟨places, hx⟩ := wit_reads os enc
  refine returnsInHanded_of_row (C := Tryd.checked) (s := OpenSpec.ofChange Rows.integerPowersSpec) own started (by kernel_rfl) Tryd.func8
    (witness_row_at (enc := enc) (C := Tryd.checked) false (laidWorld os) #[.agg #[.slice none 0 0, .bool false], .agg #[.slice none 0 0, .bool false], .agg #[.int .i64 0, .int .i64 0]] rfl (by kernel_rfl) (by kernel_rfl) (by kernel_rfl)
      (OpenSpec.preRow_of_cond 8 hx (by kernel_rfl) (fun k hk => by cases hk) (by kernel_rfl) (laid_met os))) ?_
  intro W base args ds gs before hval hW _ _ _ hL _ _
  exact law_contract H enc W base args ds gs before hval hW hL

theorem said : Rows.IntegerPowersSaid :=
  OpenClaim.holds_of_cond 8 Tryd.f8 rfl rfl rfl rfl rfl rfl rfl ⟨rfl, rfl, rfl, rfl, rfl⟩ rfl rfl rfl rfl rfl (by kernel_rfl) Tryd.func8 (by kernel_rfl)
    (of_decide_eq_true (by kernel_rfl)) (by unfold Func.isWrapper; first | (rw [if_pos (by decide +kernel)]; kernel_rfl) | (rw [if_neg (by decide +kernel)]; exact ⟨rfl, rfl⟩))
    (fun os started H enc _ F => by rw [OpenClaim.pre_eq_preRow]; exact law_lifted os started H enc F)

/-- no parameter wants a stand-in; the program's own looks are off -/
theorem plain (f : FuncId) (fn : Func) (hf : Tryd.pinned.checked.prog.funcNamed "torsion/torsionlaw01.IntegerPowers" = some f) (hfn : Tryd.pinned.checked.prog.funcs[f]? = some fn) :
    false = Tryd.pinned.checked.prog.looks [] ∧ ∀ (j : Nat) t, fn.params[j]? = some t → Tryd.pinned.checked.prog.wantsStandIn t = false := by
  obtain rfl : f = 8 := Option.some.inj ((show Tryd.prog.funcNamed "torsion/torsionlaw01.IntegerPowers" = some 8 by kernel_rfl).symm.trans hf) |>.symm
  obtain rfl : fn = Tryd.f8 := (Option.some.inj (Tryd.func8.symm.trans hfn)).symm
  refine ⟨by kernel_rfl, fun j t ht => ?_⟩
  have hm : t ∈ Tryd.f8.params.toList := by simpa using Array.mem_of_getElem? ht
  have hall : (Tryd.f8.params.toList.all fun t => !Tryd.prog.wantsStandIn t) = true := by kernel_rfl
  have := List.all_eq_true.1 hall t hm
  exact (show Tryd.prog.wantsStandIn t = false by simpa using this)

theorem law_holds : Rows.IntegerPowersCardSaid :=
  Claim7.holds_tied_plain_at .later [] _ _ _ _ said (fun _ h => by cases h) (by kernel_rfl) (fun _ h => by cases h) integerPowers_row_tie rfl ⟨rfl, rfl⟩ (by kernel_rfl) rfl plain (by kernel_rfl)
#print axioms law_holds
end Go.Proofs.YtbpcgeanpkokkaaDoor
