/- Contracts by value: arithmetic modulo primes. -/
import Derived.Test.YtcbfamgdkmfcgaaMi
import Derived.Test.YtcbfamgdkmfcgaaMb
import Derived.Test.YtcbfamgdkmfcgaaSn
namespace Go.Proofs.Ytcbfamgdkmfcgaa
open Go.RowKit

theorem mAdd_s (p a b : Nat) (hp : 0 < p) (hp2 : p ≤ 2147483648) (ha : a < p) (hb : b < p) : Spec Try.prog 28 [.sc (.int .u64 p), .sc (.int .u64 a), .sc (.int .u64 b)] (.sc (.int .u64 ((a + b) % p : Nat))) :=
  Spec.same (vs := [.int .u64 p, .int .u64 a, .int .u64 b]) fun w => mAdd_any p a b w hp hp2 ha hb
theorem mSub_s (p a b : Nat) (hp : 0 < p) (hp2 : p ≤ 2147483648) (ha : a < p) (hb : b < p) : Spec Try.prog 29 [.sc (.int .u64 p), .sc (.int .u64 a), .sc (.int .u64 b)] (.sc (.int .u64 ((a + p - b) % p : Nat))) :=
  Spec.same (vs := [.int .u64 p, .int .u64 a, .int .u64 b]) fun w => mSub_any p a b w hp hp2 ha hb
theorem mMul_s (p a b : Nat) (hp : 0 < p) (hp2 : p ≤ 2147483648) (ha : a < p) (hb : b < p) : Spec Try.prog 31 [.sc (.int .u64 p), .sc (.int .u64 a), .sc (.int .u64 b)] (.sc (.int .u64 (a * b % p : Nat))) :=
  Spec.same (vs := [.int .u64 p, .int .u64 a, .int .u64 b]) fun w => mMul_any p a b w hp hp2 ha hb
theorem mPow_s (p a e : Nat) (hp : 1 < p) (hp2 : p ≤ 2147483648) (ha : a < p) (he : e ≤ 18446744073709551615) : Spec Try.prog 32 [.sc (.int .u64 p), .sc (.int .u64 a), .sc (.int .u64 e)] (.sc (.int .u64 (pm p a e : Nat))) :=
  Spec.same (vs := [.int .u64 p, .int .u64 a, .int .u64 e]) fun w => mPow_any p a e w hp hp2 ha he

theorem AllC.rc1 {S : Nat → Prop} {w : World} {x y : Value} : Rc S w (.tu [.sc x, .sc y]) (.tuple #[x, y]) :=
  .tu (by simp) fun i a u ha hu => by
    match i with
    | 0 => simp at ha hu; subst ha; subst hu; exact .sc _
    | 1 => simp at ha hu; subst ha; subst hu; exact .sc _
    | n + 2 => simp at ha
theorem Spec.pair {P : Program} {f : Nat} {vs : List Value} {x y : Value} (h : ∀ w, Calls P f vs.toArray w fun e w' => e = .returned (.tuple #[x, y]) ∧ w = w') : Spec P f (vs.map .sc) (.tu [.sc x, .sc y]) := by
  intro S w us hS ha
  have e : us = vs.toArray := by rw [← AllC.scs ha]
  rw [e]
  refine (h w).mono ?_
  rintro e w' ⟨rfl, rfl⟩
  exact ⟨_, rfl, Grow.refl w, AllC.rc1⟩
theorem mInv_s (p a : Nat) (hp : 1 < p) (hp2 : p ≤ 2147483648) (ha : a < p) : Spec Try.prog 26 [.sc (.int .u64 p), .sc (.int .u64 a)] (.tu [.sc (.int .u64 (if a = 0 then 0 else pm p a (p - 2) : Nat)), .sc (.int .i64 (if a = 0 then 30 else 0 : Int))]) :=
  Spec.pair (vs := [.int .u64 p, .int .u64 a]) fun w => mInv_any p a w hp hp2 ha

def primesL : List Nat := [2, 3, 5, 7, 11, 101, 65521, 65537, 1000003, 2147483549, 2147483563, 2147483579, 2147483587, 2147483629, 2147483647]
theorem primes_len (g : Nat → V) : (primesL.map g).length = 15 := by rw [List.length_map]; rfl
theorem primes_get {i : Nat} (h : i < 15) : primesL[i]? = some (primesL.getD i 0) := by
  rw [List.getElem?_eq_getElem (by exact h), List.getD_eq_getElem?_getD, List.getElem?_eq_getElem (by exact h)]; rfl
theorem primes_s : Spec Try.prog 39 [] (.im (primesL.map fun (n : Nat) => .sc (.int .u64 n)) 15) := Spec.eval K03_sound 50 (fun _ => false) (by kernel_rfl)
theorem made_s (k : Nat) (hk : k ≤ 255) : Spec Try.prog 15 [.sc (.int .u8 k)] (.sc (.int .u64 (primesL.getD (k % 15) 0 : Nat))) := by
  have hm : ((k : Int) % 15).toNat = k % 15 := by omega
  have hg := primes_get (i := k % 15) (by omega)
  refine Spec.run Try.func15 rfl Try.ntmps15 (by simp) (by simp (disch := omega) only [go_sem]; rfl) fun B hB => ?_
  (repeat (first | with_reducible refine SC.seq ?_ | with_reducible refine SC.skip ?_ | with_reducible refine SC.label ?_ | with_reducible refine SC.block ?_ | with_reducible refine SC.scope ?_ | with_reducible refine SC.nil ?_ | with_reducible refine SC.exit ?_ | with_reducible refine SC.ret ?_ | with_reducible refine SO.nil ?_ | with_reducible refine tq_normal ?_ | with_reducible refine bq_normal ?_ | with_reducible refine bq_same ?_ | with_reducible refine bq_other (by decide) ?_ | with_reducible refine tq_exit ?_ | with_reducible refine tq_ret ?_ | with_reducible refine bq_ret ?_ | with_reducible refine sq_normal ?_ | with_reducible refine sq_exit ?_ | with_reducible refine sq_ret ?_ | ((with_reducible apply SC.region); (focus (simp (disch := omega) only [go_sem, ↓reduceIte]; rfl))) | (with_reducible refine SC.draw Tab.mixed rfl ?_; (repeat (refine DO.run (by simp (disch := omega) only [go_sem, ↓reduceIte, Nat.reduceEqDiff, Nat.reduceLT, Nat.reduceLeDiff, Nat.reduceAdd, Nat.reduceMul, Nat.reduceSub, reduceCtorEq, Nat.reduceBEq, Int.reduceToNat, Int.reducePow, if_pos, if_neg]; rfl) ?_)); refine DO.nil (by kernel_rfl) ?_)))
  refine SC.ops ?_
  repeat (refine SO.run (by simp (disch := omega) only [go_sem, ↓reduceIte]; rfl) ?_)
  refine SO.call Tab.go39 (by simp (disch := omega) only [go_sem]; rfl) (by simp (disch := omega) only [go_sem]) ?_
  refine SCall.of primes_s (by simp (disch := omega) only [go_sem]; rfl) ?_
  repeat (refine SO.run (by simp (disch := omega) only [go_sem, ↓reduceIte]; rfl) ?_)
  (repeat (first | with_reducible refine SC.seq ?_ | with_reducible refine SC.skip ?_ | with_reducible refine SC.label ?_ | with_reducible refine SC.block ?_ | with_reducible refine SC.scope ?_ | with_reducible refine SC.nil ?_ | with_reducible refine SC.exit ?_ | with_reducible refine SC.ret ?_ | with_reducible refine SO.nil ?_ | with_reducible refine tq_normal ?_ | with_reducible refine bq_normal ?_ | with_reducible refine bq_same ?_ | with_reducible refine bq_other (by decide) ?_ | with_reducible refine tq_exit ?_ | with_reducible refine tq_ret ?_ | with_reducible refine bq_ret ?_ | with_reducible refine sq_normal ?_ | with_reducible refine sq_exit ?_ | with_reducible refine sq_ret ?_ | ((with_reducible apply SC.region); (focus (simp (disch := omega) only [go_sem, ↓reduceIte, Nat.reduceEqDiff, reduceCtorEq, if_neg]; rfl))) | (with_reducible refine SC.draw Tab.mixed rfl ?_; (repeat (refine DO.run (by simp (disch := omega) only [go_sem, ↓reduceIte, Nat.reduceEqDiff, Nat.reduceLT, Nat.reduceLeDiff, Nat.reduceAdd, Nat.reduceMul, Nat.reduceSub, reduceCtorEq, Nat.reduceBEq, Int.reduceToNat, Int.reducePow, if_pos, if_neg]; rfl) ?_)); refine DO.nil (by kernel_rfl) ?_)))
  refine SC.ops ?_
  repeat (refine SO.run (by simp (disch := omega) only [go_sem, ↓reduceIte, Nat.reduceEqDiff, Nat.reduceLT, reduceCtorEq, if_pos, if_neg, primes_len, hm, hg, List.getElem?_drop, List.getElem?_map, Int.cast_ofNat_Int]; rfl) ?_)
  (repeat (first | with_reducible refine SC.seq ?_ | with_reducible refine SC.skip ?_ | with_reducible refine SC.label ?_ | with_reducible refine SC.block ?_ | with_reducible refine SC.scope ?_ | with_reducible refine SC.nil ?_ | with_reducible refine SC.exit ?_ | with_reducible refine SC.ret ?_ | with_reducible refine SO.nil ?_ | with_reducible refine tq_normal ?_ | with_reducible refine bq_normal ?_ | with_reducible refine bq_same ?_ | with_reducible refine bq_other (by decide) ?_ | with_reducible refine tq_exit ?_ | with_reducible refine tq_ret ?_ | with_reducible refine bq_ret ?_ | with_reducible refine sq_normal ?_ | with_reducible refine sq_exit ?_ | with_reducible refine sq_ret ?_ | ((with_reducible apply SC.region); (focus (simp (disch := omega) only [go_sem, ↓reduceIte, Nat.reduceEqDiff, Nat.reduceLT, Nat.reduceLeDiff, Nat.reduceAdd, Nat.reduceMul, Nat.reduceSub, reduceCtorEq, Nat.reduceBEq, Int.reduceToNat, Int.reducePow, if_pos, if_neg]; rfl))) | (with_reducible refine SC.draw Tab.mixed rfl ?_; (repeat (refine DO.run (by simp (disch := omega) only [go_sem, ↓reduceIte, Nat.reduceEqDiff, Nat.reduceLT, Nat.reduceLeDiff, Nat.reduceAdd, Nat.reduceMul, Nat.reduceSub, reduceCtorEq, Nat.reduceBEq, Int.reduceToNat, Int.reducePow, if_pos, if_neg]; rfl) ?_)); refine DO.nil (by kernel_rfl) ?_)))
  exact retQ_ret Try.results15 (by simp (disch := omega) only [go_sem, ↓reduceIte]; rfl) (by simp (disch := omega) only [go_sem]; rfl) rfl
end Go.Proofs.Ytcbfamgdkmfcgaa
