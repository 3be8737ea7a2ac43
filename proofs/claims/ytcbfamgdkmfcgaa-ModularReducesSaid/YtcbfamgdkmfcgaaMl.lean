/- The law's function ModularMatchesReference returns true. -/
import Derived.Test.YtcbfamgdkmfcgaaMj
import Derived.Test.YtcbfamgdkmfcgaaJf
namespace Go.Proofs.Ytcbfamgdkmfcgaa
open Go.RowKit

theorem rAdd_s (p a b : Nat) (hp : 0 < p) (hp2 : p ≤ 2147483648) (ha : a < p) (hb : b < p) : Spec Try.prog 23 [.sc (.int .u64 p), .sc (.int .u64 a), .sc (.int .u64 b)] (.sc (.int .u64 ((a + b) % p : Nat))) :=
  Spec.same (vs := [.int .u64 p, .int .u64 a, .int .u64 b]) fun w => rAdd_any p a b w hp hp2 ha hb
theorem rSub_s (p a b : Nat) (hp : 0 < p) (hp2 : p ≤ 2147483648) (ha : a < p) (hb : b < p) : Spec Try.prog 30 [.sc (.int .u64 p), .sc (.int .u64 a), .sc (.int .u64 b)] (.sc (.int .u64 ((a + p - b) % p : Nat))) :=
  Spec.same (vs := [.int .u64 p, .int .u64 a, .int .u64 b]) fun w => rSub_any p a b w hp hp2 ha hb
theorem rMul_s (p a b : Nat) (hp : 0 < p) (hp2 : p ≤ 2147483648) (ha : a < p) (hb : b < p) : Spec Try.prog 25 [.sc (.int .u64 p), .sc (.int .u64 a), .sc (.int .u64 b)] (.sc (.int .u64 (a * b % p : Nat))) :=
  Spec.same (vs := [.int .u64 p, .int .u64 a, .int .u64 b]) fun w => rMul_any p a b w hp hp2 ha hb
theorem rPow_s (p a e : Nat) (hp : 1 < p) (hp2 : p ≤ 2147483648) (ha : a < p) (he : e ≤ 18446744073709551615) : Spec Try.prog 33 [.sc (.int .u64 p), .sc (.int .u64 a), .sc (.int .u64 e)] (.sc (.int .u64 (pm p a e : Nat))) :=
  Spec.same (vs := [.int .u64 p, .int .u64 a, .int .u64 e]) fun w => rPow_any p a e w hp hp2 ha he
theorem rInv_s (p a : Nat) (hp : 1 < p) (hp2 : p ≤ 2147483648) (ha : a < p) : Spec Try.prog 27 [.sc (.int .u64 p), .sc (.int .u64 a)] (.tu [.sc (.int .u64 (if a = 0 then 0 else pm p a (p - 2) : Nat)), .sc (.int .i64 (if a = 0 then 30 else 0 : Int))]) :=
  Spec.pair (vs := [.int .u64 p, .int .u64 a]) fun w => rInv_any p a w hp hp2 ha

theorem digs_nil (f : Nat) : digs f 0 = [] := by cases f <;> simp [digs]
theorem limbsOf_small {n : Nat} (h : n < 4294967296) : (limbsOf n).length ≤ 1 := by
  unfold limbsOf
  simp only [digs]
  split
  · simp
  · rw [Nat.div_eq_of_lt h, digs_nil]; simp
theorem match_s (k x0 x1 x2 p : Nat) (hp : p = primesL.getD (k % 15) 0) (hp1 : 1 < p) (hp2 : p ≤ 2147483647) (hk : k ≤ 255) (h0 : x0 ≤ 18446744073709551615) (h1 : x1 ≤ 18446744073709551615) (h2 : x2 ≤ 18446744073709551615) :
    Spec Try.prog 6 [.sc (.int .u8 k), .ag [.sc (.int .u64 x0), .sc (.int .u64 x1), .sc (.int .u64 x2)]] (.sc (.bool true)) := by
  obtain ⟨a, ea⟩ : ∃ a, a = x0 % p := ⟨_, rfl⟩
  obtain ⟨b, eb⟩ : ∃ b, b = x1 % p := ⟨_, rfl⟩
  have ha : a < p := ea ▸ Nat.mod_lt _ (by omega)
  have hb : b < p := eb ▸ Nat.mod_lt _ (by omega)
  have ia : (x0 : Int) % (p : Int) = (a : Int) := by rw [ea]; simp
  have ib : (x1 : Int) % (p : Int) = (b : Int) := by rw [eb]; simp
  have hsh : Short (symm p a) := Nat.le_trans (limbsOf_small (by unfold symm; split <;> omega)) (by omega)
  have hs := same_i (symm p a) (symm p a) hsh hsh
  have hm := msymm_i p a (by omega) ha
  have hr := rsymm_i p a (by omega) ha
  obtain ⟨d, ed⟩ : ∃ d : Nat, d = if a = 0 then 0 else pm p a (p - 2) := ⟨_, rfl⟩
  obtain ⟨e, ee⟩ : ∃ e : Int, e = if a = 0 then 30 else 0 := ⟨_, rfl⟩
  have i1 := mInv_s p a hp1 (by omega) ha
  have i2 := rInv_s p a hp1 (by omega) ha
  rw [← ed, ← ee] at i1 i2
  unfold iv sv at hs hm hr
  refine Spec.run Try.func6 rfl Try.ntmps6 (by simp) (by simp (disch := omega) only [go_sem, Nat.reduceAdd]; rfl) fun B hB => ?_
  (repeat (first | with_reducible refine SC.seq ?_ | with_reducible refine SC.skip ?_ | with_reducible refine SC.label ?_ | with_reducible refine SC.block ?_ | with_reducible refine SC.scope ?_ | with_reducible refine SC.nil ?_ | with_reducible refine SC.exit ?_ | with_reducible refine SC.ret ?_ | with_reducible refine SO.nil ?_ | with_reducible refine tq_normal ?_ | with_reducible refine bq_normal ?_ | with_reducible refine bq_same ?_ | with_reducible refine bq_other (by decide) ?_ | with_reducible refine tq_exit ?_ | with_reducible refine tq_ret ?_ | with_reducible refine bq_ret ?_ | with_reducible refine sq_normal ?_ | with_reducible refine sq_exit ?_ | with_reducible refine sq_ret ?_ | ((with_reducible apply SC.region); (focus (simp (disch := omega) only [go_sem, ↓reduceIte, reduceCtorEq]; rfl))) | (with_reducible refine SC.draw Tab.mixed rfl ?_; (repeat (refine DO.run (by simp (disch := omega) only [go_sem, ↓reduceIte, Nat.reduceEqDiff, Nat.reduceLT, Nat.reduceLeDiff, Nat.reduceAdd, Nat.reduceMul, Nat.reduceSub, reduceCtorEq, Nat.reduceBEq, Int.reduceToNat, Int.reducePow, if_pos, if_neg]; rfl) ?_)); refine DO.nil (by kernel_rfl) ?_)))
  refine SC.ops ?_
  (refine SO.call Tab.go8 (by simp (disch := omega) only [go_sem]; rfl) (by simp (disch := omega) only [go_sem] <;> rfl) ?_)
  (refine SCall.of (sanity_s) (by simp (disch := omega) only [go_sem]; rfl) ?_)
  (repeat (refine SO.run (by simp (disch := omega) only [go_sem, ↓reduceIte]; rfl) ?_))
  (repeat (first | with_reducible refine SC.seq ?_ | with_reducible refine SC.skip ?_ | with_reducible refine SC.label ?_ | with_reducible refine SC.block ?_ | with_reducible refine SC.scope ?_ | with_reducible refine SC.nil ?_ | with_reducible refine SC.exit ?_ | with_reducible refine SC.ret ?_ | with_reducible refine SO.nil ?_ | with_reducible refine tq_normal ?_ | with_reducible refine bq_normal ?_ | with_reducible refine bq_same ?_ | with_reducible refine bq_other (by decide) ?_ | with_reducible refine tq_exit ?_ | with_reducible refine tq_ret ?_ | with_reducible refine bq_ret ?_ | with_reducible refine sq_normal ?_ | with_reducible refine sq_exit ?_ | with_reducible refine sq_ret ?_ | ((with_reducible apply SC.region); (focus (simp (disch := omega) only [go_sem, ↓reduceIte, reduceCtorEq]; rfl))) | (with_reducible refine SC.draw Tab.mixed rfl ?_; (repeat (refine DO.run (by simp (disch := omega) only [go_sem, ↓reduceIte, Nat.reduceEqDiff, Nat.reduceLT, Nat.reduceLeDiff, Nat.reduceAdd, Nat.reduceMul, Nat.reduceSub, reduceCtorEq, Nat.reduceBEq, Int.reduceToNat, Int.reducePow, if_pos, if_neg]; rfl) ?_)); refine DO.nil (by kernel_rfl) ?_)))
  refine SC.ops ?_
  (repeat (refine SO.run (by simp (disch := omega) only [go_sem, ↓reduceIte, reduceCtorEq]; rfl) ?_))
  (refine SO.call Tab.go15 (by simp (disch := omega) only [go_sem, ↓reduceIte]; rfl) (by simp (disch := omega) only [go_sem] <;> rfl) ?_)
  (refine SCall.of (made_s k hk) (by simp (disch := omega) only [go_sem]; rfl) ?_)
  (repeat (refine SO.run (by simp (disch := omega) only [go_sem, ↓reduceIte]; rfl) ?_))
  rw [← hp]
  (repeat (first | with_reducible refine SC.seq ?_ | with_reducible refine SC.skip ?_ | with_reducible refine SC.label ?_ | with_reducible refine SC.block ?_ | with_reducible refine SC.scope ?_ | with_reducible refine SC.nil ?_ | with_reducible refine SC.exit ?_ | with_reducible refine SC.ret ?_ | with_reducible refine SO.nil ?_ | with_reducible refine tq_normal ?_ | with_reducible refine bq_normal ?_ | with_reducible refine bq_same ?_ | with_reducible refine bq_other (by decide) ?_ | with_reducible refine tq_exit ?_ | with_reducible refine tq_ret ?_ | with_reducible refine bq_ret ?_ | with_reducible refine sq_normal ?_ | with_reducible refine sq_exit ?_ | with_reducible refine sq_ret ?_ | ((with_reducible apply SC.region); (focus (simp (disch := omega) only [go_sem, ↓reduceIte, Nat.reduceEqDiff, Int.reduceToNat, if_pos, if_neg]; rfl))) | (with_reducible refine SC.draw Tab.mixed rfl ?_; (repeat (refine DO.run (by simp (disch := omega) only [go_sem, ↓reduceIte, Nat.reduceEqDiff, Nat.reduceLT, Nat.reduceLeDiff, Nat.reduceAdd, Nat.reduceMul, Nat.reduceSub, reduceCtorEq, Nat.reduceBEq, Int.reduceToNat, Int.reducePow, if_pos, if_neg]; rfl) ?_)); refine DO.nil (by kernel_rfl) ?_)))
  refine SC.ops ?_
  (repeat (refine SO.run (by simp (disch := omega) only [go_sem, ↓reduceIte, Nat.reduceEqDiff]; rfl) ?_))
  rw [ia, ib]
  (refine SO.call Tab.go26 (by simp (disch := omega) only [go_sem, ↓reduceIte, Nat.reduceEqDiff]; rfl) (by simp (disch := omega) only [go_sem] <;> rfl) ?_)
  (refine SCall.of (i1) (by simp (disch := omega) only [go_sem]; rfl) ?_)
  (repeat (refine SO.run (by simp (disch := omega) only [go_sem, ↓reduceIte, Nat.reduceEqDiff]; rfl) ?_))
  (repeat (first | with_reducible refine SC.seq ?_ | with_reducible refine SC.skip ?_ | with_reducible refine SC.label ?_ | with_reducible refine SC.block ?_ | with_reducible refine SC.scope ?_ | with_reducible refine SC.nil ?_ | with_reducible refine SC.exit ?_ | with_reducible refine SC.ret ?_ | with_reducible refine SO.nil ?_ | with_reducible refine tq_normal ?_ | with_reducible refine bq_normal ?_ | with_reducible refine bq_same ?_ | with_reducible refine bq_other (by decide) ?_ | with_reducible refine tq_exit ?_ | with_reducible refine tq_ret ?_ | with_reducible refine bq_ret ?_ | with_reducible refine sq_normal ?_ | with_reducible refine sq_exit ?_ | with_reducible refine sq_ret ?_ | ((with_reducible apply SC.region); (focus (simp (disch := omega) only [go_sem, ↓reduceIte, Nat.reduceEqDiff]; rfl))) | (with_reducible refine SC.draw Tab.mixed rfl ?_; (repeat (refine DO.run (by simp (disch := omega) only [go_sem, ↓reduceIte, Nat.reduceEqDiff, Nat.reduceLT, Nat.reduceLeDiff, Nat.reduceAdd, Nat.reduceMul, Nat.reduceSub, reduceCtorEq, Nat.reduceBEq, Int.reduceToNat, Int.reducePow, if_pos, if_neg]; rfl) ?_)); refine DO.nil (by kernel_rfl) ?_)))
  refine SC.ops ?_
  (repeat (refine SO.run (by simp (disch := omega) only [go_sem, ↓reduceIte, Nat.reduceEqDiff]; rfl) ?_))
  (refine SO.call Tab.go27 (by simp (disch := omega) only [go_sem, ↓reduceIte, Nat.reduceEqDiff]; rfl) (by simp (disch := omega) only [go_sem] <;> rfl) ?_)
  (refine SCall.of (i2) (by simp (disch := omega) only [go_sem]; rfl) ?_)
  (repeat (refine SO.run (by simp (disch := omega) only [go_sem, ↓reduceIte, Nat.reduceEqDiff]; rfl) ?_))
  (repeat (first | with_reducible refine SC.seq ?_ | with_reducible refine SC.skip ?_ | with_reducible refine SC.label ?_ | with_reducible refine SC.block ?_ | with_reducible refine SC.scope ?_ | with_reducible refine SC.nil ?_ | with_reducible refine SC.exit ?_ | with_reducible refine SC.ret ?_ | with_reducible refine SO.nil ?_ | with_reducible refine tq_normal ?_ | with_reducible refine bq_normal ?_ | with_reducible refine bq_same ?_ | with_reducible refine bq_other (by decide) ?_ | with_reducible refine tq_exit ?_ | with_reducible refine tq_ret ?_ | with_reducible refine bq_ret ?_ | with_reducible refine sq_normal ?_ | with_reducible refine sq_exit ?_ | with_reducible refine sq_ret ?_ | ((with_reducible apply SC.region); (focus (simp (disch := omega) only [go_sem, ↓reduceIte, Nat.reduceEqDiff, Nat.reduceLT, Nat.reduceLeDiff, Nat.reduceAdd, Nat.reduceMul, Nat.reduceSub, reduceCtorEq, Nat.reduceBEq, Int.reduceToNat, Int.reducePow, if_pos, if_neg]; rfl))) | (with_reducible refine SC.draw Tab.mixed rfl ?_; (repeat (refine DO.run (by simp (disch := omega) only [go_sem, ↓reduceIte, Nat.reduceEqDiff, Nat.reduceLT, Nat.reduceLeDiff, Nat.reduceAdd, Nat.reduceMul, Nat.reduceSub, reduceCtorEq, Nat.reduceBEq, Int.reduceToNat, Int.reducePow, if_pos, if_neg]; rfl) ?_)); refine DO.nil (by kernel_rfl) ?_)))
  (refine SC.draw Tab.mixed (by first | rfl | simp (disch := omega) only [go_sem, ↓reduceIte, Nat.reduceEqDiff, Nat.reduceLT, Nat.reduceLeDiff, Nat.reduceAdd, Nat.reduceMul, Nat.reduceSub, reduceCtorEq, Nat.reduceBEq, Int.reduceToNat, Int.reducePow, if_pos, if_neg]) ?_)
  (repeat (refine DO.run (by simp (disch := omega) only [go_sem, ↓reduceIte, Nat.reduceEqDiff]; rfl) ?_))
  (refine DO.call Tab.go28 (by simp (disch := omega) only [go_sem, ↓reduceIte, Nat.reduceEqDiff]; rfl) (by simp (disch := omega) only [go_sem] <;> rfl) ?_)
  (refine DCall.of (mAdd_s p a b (by omega) (by omega) ha hb) (by simp (disch := omega) only [go_sem]; rfl) ?_)
  (repeat (refine DO.run (by simp (disch := omega) only [go_sem, ↓reduceIte, Nat.reduceEqDiff]; rfl) ?_))
  (refine DO.call Tab.go23 (by simp (disch := omega) only [go_sem, ↓reduceIte, Nat.reduceEqDiff]; rfl) (by simp (disch := omega) only [go_sem] <;> rfl) ?_)
  (refine DCall.of (rAdd_s p a b (by omega) (by omega) ha hb) (by simp (disch := omega) only [go_sem]; rfl) ?_)
  (repeat (refine DO.run (by simp (disch := omega) only [go_sem, ↓reduceIte, Nat.reduceEqDiff, beq_self_eq_true]; rfl) ?_))
  (refine DO.call Tab.go29 (by simp (disch := omega) only [go_sem, ↓reduceIte, Nat.reduceEqDiff]; rfl) (by simp (disch := omega) only [go_sem] <;> rfl) ?_)
  (refine DCall.of (mSub_s p a b (by omega) (by omega) ha hb) (by simp (disch := omega) only [go_sem]; rfl) ?_)
  (repeat (refine DO.run (by simp (disch := omega) only [go_sem, ↓reduceIte, Nat.reduceEqDiff]; rfl) ?_))
  (refine DO.call Tab.go30 (by simp (disch := omega) only [go_sem, ↓reduceIte, Nat.reduceEqDiff]; rfl) (by simp (disch := omega) only [go_sem] <;> rfl) ?_)
  (refine DCall.of (rSub_s p a b (by omega) (by omega) ha hb) (by simp (disch := omega) only [go_sem]; rfl) ?_)
  (repeat (refine DO.run (by simp (disch := omega) only [go_sem, ↓reduceIte, Nat.reduceEqDiff, beq_self_eq_true]; rfl) ?_))
  (refine DO.call Tab.go31 (by simp (disch := omega) only [go_sem, ↓reduceIte, Nat.reduceEqDiff]; rfl) (by simp (disch := omega) only [go_sem] <;> rfl) ?_)
  (refine DCall.of (mMul_s p a b (by omega) (by omega) ha hb) (by simp (disch := omega) only [go_sem]; rfl) ?_)
  (repeat (refine DO.run (by simp (disch := omega) only [go_sem, ↓reduceIte, Nat.reduceEqDiff]; rfl) ?_))
  (refine DO.call Tab.go25 (by simp (disch := omega) only [go_sem, ↓reduceIte, Nat.reduceEqDiff]; rfl) (by simp (disch := omega) only [go_sem] <;> rfl) ?_)
  (refine DCall.of (rMul_s p a b (by omega) (by omega) ha hb) (by simp (disch := omega) only [go_sem]; rfl) ?_)
  (repeat (refine DO.run (by simp (disch := omega) only [go_sem, ↓reduceIte, Nat.reduceEqDiff, Int.reduceToNat, if_pos, beq_self_eq_true]; rfl) ?_))
  (refine DO.call Tab.go32 (by simp (disch := omega) only [go_sem, ↓reduceIte, Nat.reduceEqDiff]; rfl) (by simp (disch := omega) only [go_sem] <;> rfl) ?_)
  (refine DCall.of (mPow_s p a x2 hp1 (by omega) ha h2) (by simp (disch := omega) only [go_sem]; rfl) ?_)
  (repeat (refine DO.run (by simp (disch := omega) only [go_sem, ↓reduceIte, Nat.reduceEqDiff, Int.reduceToNat, if_pos]; rfl) ?_))
  (refine DO.call Tab.go33 (by simp (disch := omega) only [go_sem, ↓reduceIte, Nat.reduceEqDiff]; rfl) (by simp (disch := omega) only [go_sem] <;> rfl) ?_)
  (refine DCall.of (rPow_s p a x2 hp1 (by omega) ha h2) (by simp (disch := omega) only [go_sem]; rfl) ?_)
  (repeat (refine DO.run (by simp (disch := omega) only [go_sem, ↓reduceIte, Nat.reduceEqDiff, beq_self_eq_true]; rfl) ?_))
  (refine DO.call Tab.go19 (by simp (disch := omega) only [go_sem, ↓reduceIte, Nat.reduceEqDiff]; rfl) (by simp (disch := omega) only [go_sem] <;> rfl) ?_)
  (refine DCall.of (hm) (by simp (disch := omega) only [go_sem]; rfl) ?_)
  (repeat (refine DO.run (by simp (disch := omega) only [go_sem, ↓reduceIte, Nat.reduceEqDiff]; rfl) ?_))
  (refine DO.call Tab.go35 (by simp (disch := omega) only [go_sem, ↓reduceIte, Nat.reduceEqDiff]; rfl) (by simp (disch := omega) only [go_sem] <;> rfl) ?_)
  (refine DCall.of (hr) (by simp (disch := omega) only [go_sem]; rfl) ?_)
  (repeat (refine DO.run (by simp (disch := omega) only [go_sem, ↓reduceIte]; rfl) ?_))
  (refine DO.call Tab.go34 (by simp (disch := omega) only [go_sem, ↓reduceIte, Nat.reduceEqDiff]; rfl) (by simp (disch := omega) only [go_sem] <;> rfl) ?_)
  (refine DCall.of (hs) (by simp (disch := omega) only [go_sem]; rfl) ?_)
  (repeat (refine DO.run (by simp (disch := omega) only [go_sem, ↓reduceIte, Nat.reduceEqDiff, Nat.reduceLT]; rfl) ?_))
  (refine DO.nil (by kernel_rfl) ?_)
  (repeat (first | with_reducible refine SC.seq ?_ | with_reducible refine SC.skip ?_ | with_reducible refine SC.label ?_ | with_reducible refine SC.block ?_ | with_reducible refine SC.scope ?_ | with_reducible refine SC.nil ?_ | with_reducible refine SC.exit ?_ | with_reducible refine SC.ret ?_ | with_reducible refine SO.nil ?_ | with_reducible refine tq_normal ?_ | with_reducible refine bq_normal ?_ | with_reducible refine bq_same ?_ | with_reducible refine bq_other (by decide) ?_ | with_reducible refine tq_exit ?_ | with_reducible refine tq_ret ?_ | with_reducible refine bq_ret ?_ | with_reducible refine sq_normal ?_ | with_reducible refine sq_exit ?_ | with_reducible refine sq_ret ?_ | ((with_reducible apply SC.region); (focus (simp (disch := omega) only [go_sem, ↓reduceIte, Nat.reduceEqDiff, Nat.reduceLT, Nat.reduceLeDiff, Nat.reduceAdd, Nat.reduceMul, Nat.reduceSub, reduceCtorEq, Nat.reduceBEq, Int.reduceToNat, Int.reducePow, if_pos, if_neg]; rfl))) | (with_reducible refine SC.draw Tab.mixed rfl ?_; (repeat (refine DO.run (by simp (disch := omega) only [go_sem, ↓reduceIte, Nat.reduceEqDiff, Nat.reduceLT, Nat.reduceLeDiff, Nat.reduceAdd, Nat.reduceMul, Nat.reduceSub, reduceCtorEq, Nat.reduceBEq, Int.reduceToNat, Int.reducePow, if_pos, if_neg]; rfl) ?_)); refine DO.nil (by kernel_rfl) ?_)))
  exact retQ_ret Try.results6 (by simp (disch := omega) only [go_sem, ↓reduceIte]; rfl) (by simp (disch := omega) only [go_sem]; rfl) rfl
end Go.Proofs.Ytcbfamgdkmfcgaa
