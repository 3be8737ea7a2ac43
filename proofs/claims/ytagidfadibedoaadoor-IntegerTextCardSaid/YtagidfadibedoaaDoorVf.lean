/- Texts joined: Qb Qc Qd Qe Qf. -/
import Derived.WalkSmall
import Derived.Test.YtagidfadibedoaaDoorVc
import Derived.Test.YtagidfadibedoaaDoorVd
set_option linter.all false
/- The program's integers by value: Valid, word, Small, Sign. -/
namespace Go.Proofs.YtagidfadibedoaaDoor
open Go.RowKit
theorem trim_n (n : Nat) (h : (limbsOf n).length ≤ 1000000000000) : Spec Tryd.prog 25 [sv (limbsOf n)] (sv (limbsOf n)) := by
  have := trim_i (limbsOf n) (limbsOf_limbs n) h
  rwa [limbsOf_val] at this
end Go.Proofs.YtagidfadibedoaaDoor

/- The program's integers by value: Neg, Abs, compare, Cmp. -/
namespace Go.Proofs.YtagidfadibedoaaDoor
open Go.RowKit
end Go.Proofs.YtagidfadibedoaaDoor

/- The program's integers by value: plus, minus, Add, Sub. -/
namespace Go.Proofs.YtagidfadibedoaaDoor
open Go.RowKit
end Go.Proofs.YtagidfadibedoaaDoor

/- The program's integers by value: times, Mul. -/
namespace Go.Proofs.YtagidfadibedoaaDoor
open Go.RowKit
end Go.Proofs.YtagidfadibedoaaDoor

/- The law's integers: made, and equal integers. -/
namespace Go.Proofs.YtagidfadibedoaaDoor
open Go.RowKit
def made12 (l : List Nat) (neg : Bool) : Int := sgn neg (val (l.take 12))
theorem made12_fits {l : List Nat} (h : limbs l) (neg : Bool) : Fits 12 (made12 l neg) := by
  have := fits_val (limbs_take h 12) neg
  exact this.mono (by simp; omega)
theorem lawmade_s (l : List Nat) (n : Nat) (neg : Bool) (h : limbs l) (hn : n = l.length) (hm : n ≤ 9223372036854775807) : Spec Tryd.prog 5 [.ag [.im (lv l) n, .sc (.bool neg)]] (iv (made12 l neg)) := by
  subst hn
  have c1 := made_i (l.take 12) neg (limbs_take h 12) (by simp; omega)
  unfold made12
  unfold iv sv at *
  refine Spec.run Tryd.func5 rfl Tryd.ntmps5 (by simp) (by simp (disch := omega) only [go_sem, ↓reduceIte, Nat.reduceEqDiff, Nat.reduceLT, Nat.reduceLeDiff, Nat.reduceAdd, Nat.reduceMul, Nat.reduceSub, reduceCtorEq, Nat.reduceBEq, Int.reduceToNat, Int.reducePow, if_pos, if_neg]; rfl) fun B hB => ?_
  by_cases h4 : l.length ≤ 12
  · have ht : l.take 12 = l := List.take_of_length_le h4
    rw [ht] at c1 ⊢
    have q1 : (if (12 : Int) < (l.length : Int) then (12 : Int) else (l.length : Int)) = (l.length : Int) := if_neg (by omega)
    (repeat (first | refine DO.nil (by kernel_rfl) ?_ | (with_reducible refine oz (by constructor <;> decide) ?_) | ((first | apply SO.call | apply DO.call); (iterate 3 (focus (simp (disch := omega) only [go_sem, ↓reduceIte, Nat.reduceEqDiff, Nat.reduceLT, Nat.reduceLeDiff, Nat.reduceAdd, Nat.reduceMul, Nat.reduceSub, reduceCtorEq, Nat.reduceBEq, Int.reduceToNat, Int.reducePow, if_pos, if_neg, q1, lv_len, lv_take, List.take_length] <;> rfl))); (first | apply SCall.ofX | apply DCall.ofX); (focus (first | assumption)); (focus (simp (disch := omega) only [go_sem, ↓reduceIte, Nat.reduceEqDiff, Nat.reduceLT, Nat.reduceLeDiff, Nat.reduceAdd, Nat.reduceMul, Nat.reduceSub, reduceCtorEq, Nat.reduceBEq, Int.reduceToNat, Int.reducePow, if_pos, if_neg, q1, lv_len, lv_take, List.take_length] <;> rfl))) | ((with_reducible first | apply SC.condB | apply SC.region | apply SO.run | apply DO.run); (focus (simp (disch := omega) only [go_sem, ↓reduceIte, Nat.reduceEqDiff, Nat.reduceLT, Nat.reduceLeDiff, Nat.reduceAdd, Nat.reduceMul, Nat.reduceSub, reduceCtorEq, Nat.reduceBEq, Int.reduceToNat, Int.reducePow, if_pos, if_neg, q1, lv_len, lv_take, List.take_length] <;> rfl)); (first | refine pickT ?_ | refine pickF ?_ | fail_if_success with_reducible refine pickA ?_)) | ((with_reducible refine SC.draw Tab.mixed ?_ ?_); (focus (first | rfl | simp (disch := omega) only [go_sem, ↓reduceIte, Nat.reduceEqDiff, Nat.reduceLT, Nat.reduceLeDiff, Nat.reduceAdd, Nat.reduceMul, Nat.reduceSub, reduceCtorEq, Nat.reduceBEq, Int.reduceToNat, Int.reducePow, if_pos, if_neg, q1, lv_len, lv_take, List.take_length]))) | (with_reducible apply SC.ops)))
    exact retQ_ret Tryd.results5 (by simp (disch := omega) only [go_sem, ↓reduceIte, Nat.reduceEqDiff, Nat.reduceLT, Nat.reduceLeDiff, Nat.reduceAdd, Nat.reduceMul, Nat.reduceSub, reduceCtorEq, Nat.reduceBEq, Int.reduceToNat, Int.reducePow, if_pos, if_neg]; rfl) (by simp (disch := omega) only [go_sem, ↓reduceIte, Nat.reduceEqDiff, Nat.reduceLT, Nat.reduceLeDiff, Nat.reduceAdd, Nat.reduceMul, Nat.reduceSub, reduceCtorEq, Nat.reduceBEq, Int.reduceToNat, Int.reducePow, if_pos, if_neg]; rfl) rfl
  · have q1 : (if (12 : Int) < (l.length : Int) then (12 : Int) else (l.length : Int)) = 12 := if_pos (by omega)
    have hl4 : (l.take 12).length = 12 := by simp; omega
    rw [hl4] at c1
    (repeat (first | refine DO.nil (by kernel_rfl) ?_ | (with_reducible refine oz (by constructor <;> decide) ?_) | ((first | apply SO.call | apply DO.call); (iterate 3 (focus (simp (disch := omega) only [go_sem, ↓reduceIte, Nat.reduceEqDiff, Nat.reduceLT, Nat.reduceLeDiff, Nat.reduceAdd, Nat.reduceMul, Nat.reduceSub, reduceCtorEq, Nat.reduceBEq, Int.reduceToNat, Int.reducePow, if_pos, if_neg, q1, lv_len, lv_take] <;> rfl))); (first | apply SCall.ofX | apply DCall.ofX); (focus (first | assumption)); (focus (simp (disch := omega) only [go_sem, ↓reduceIte, Nat.reduceEqDiff, Nat.reduceLT, Nat.reduceLeDiff, Nat.reduceAdd, Nat.reduceMul, Nat.reduceSub, reduceCtorEq, Nat.reduceBEq, Int.reduceToNat, Int.reducePow, if_pos, if_neg, q1, lv_len, lv_take] <;> rfl))) | ((with_reducible first | apply SC.condB | apply SC.region | apply SO.run | apply DO.run); (focus (simp (disch := omega) only [go_sem, ↓reduceIte, Nat.reduceEqDiff, Nat.reduceLT, Nat.reduceLeDiff, Nat.reduceAdd, Nat.reduceMul, Nat.reduceSub, reduceCtorEq, Nat.reduceBEq, Int.reduceToNat, Int.reducePow, if_pos, if_neg, q1, lv_len, lv_take] <;> rfl)); (first | refine pickT ?_ | refine pickF ?_ | fail_if_success with_reducible refine pickA ?_)) | ((with_reducible refine SC.draw Tab.mixed ?_ ?_); (focus (first | rfl | simp (disch := omega) only [go_sem, ↓reduceIte, Nat.reduceEqDiff, Nat.reduceLT, Nat.reduceLeDiff, Nat.reduceAdd, Nat.reduceMul, Nat.reduceSub, reduceCtorEq, Nat.reduceBEq, Int.reduceToNat, Int.reducePow, if_pos, if_neg, q1, lv_len, lv_take]))) | (with_reducible apply SC.ops)))
    exact retQ_ret Tryd.results5 (by simp (disch := omega) only [go_sem, ↓reduceIte, Nat.reduceEqDiff, Nat.reduceLT, Nat.reduceLeDiff, Nat.reduceAdd, Nat.reduceMul, Nat.reduceSub, reduceCtorEq, Nat.reduceBEq, Int.reduceToNat, Int.reducePow, if_pos, if_neg]; rfl) (by simp (disch := omega) only [go_sem, ↓reduceIte, Nat.reduceEqDiff, Nat.reduceLT, Nat.reduceLeDiff, Nat.reduceAdd, Nat.reduceMul, Nat.reduceSub, reduceCtorEq, Nat.reduceBEq, Int.reduceToNat, Int.reducePow, if_pos, if_neg]; rfl) rfl
theorem same_t (x y : Int) (h : x = y) (hx : Fits 1000 x) : Spec Tryd.prog 10 [iv x, iv y] (.sc (.bool true)) := by
  subst h
  have := same_i x x (fits_short hx (by omega)) (fits_short hx (by omega))
  rwa [decide_eq_true rfl] at this
end Go.Proofs.YtagidfadibedoaaDoor
