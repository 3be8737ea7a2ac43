/- Texts joined: Hm Hn Ho Hp Hq. -/
import Derived.Test.YtfhcmibgpddggaaZl
import Derived.Test.YtfhcmibgpddggaaZo
set_option linter.all false
open Nat renaming reduceEqDiff → zn1, reduceLT → zn2, reduceLeDiff → zn3, reduceAdd → zn4, reduceMul → zn5, reduceSub → zn6, reduceBEq → zn7
open Int renaming reduceToNat → zi1, reducePow → zi2
namespace Go.Proofs.Ytfhcmibgpddggaa
open Go.RowKit
def meetB (a o : OpL) : Bool :=
  if a.kd = o.kd then
    if o.kd = 1 then (decide (a.i = o.i) && decide (a.j = o.j)) || (decide (a.i = o.j) && decide (a.j = o.i))
    else if o.kd = 2 then decide (a.i = o.i) else decide (a.i = o.i) && decide (a.j = o.j)
  else false
theorem natbeq (a b : Nat) : ((a : Int) == (b : Int)) = decide (a = b) := by
  by_cases h : a = b
  · subst h; simp
  · rw [decide_eq_false h, beq_eq_false_iff_ne]; omega
theorem natbne (a b : Nat) : ((a : Int) != (b : Int)) = !decide (a = b) := by
  rw [← natbeq]; rfl
set_option maxHeartbeats 4000000 in
theorem meet_s (a o : OpL) (ho : o.kd = 1 ∨ o.kd = 2 ∨ o.kd = 3) : Spec Try.prog 44 [.ag (opC a), .ag (opC o)] (.sc (.bool (meetB a o))) := by
  obtain ⟨kd, i, j, k⟩ := a
  obtain ⟨kd', i', j', k'⟩ := o
  unfold meetB opC sv
  simp only at ho ⊢
  have e1 := natbeq i i'
  have e2 := natbeq j j'
  have e3 := natbeq i j'
  have e4 := natbeq j i'
  have e0 := natbne kd kd'
  by_cases h0 : kd = kd'
  · subst h0
    rw [decide_eq_true rfl] at e0
    rw [if_pos rfl]
    rcases ho with rfl | rfl | rfl
    · have q1 : (((1 : Nat) : Int) == 1) = true := rfl
      rw [if_pos rfl]
      by_cases h1 : i = i'
      · rw [decide_eq_true h1] at e1 ⊢
        by_cases h2 : j = j'
        · rw [decide_eq_true h2] at e2 ⊢
          refine Spec.run Try.func44 rfl Try.ntmps44 (by simp) (by simp (disch := omega) only [go_sem, zn4]; rfl) fun B hB => ?_
          (repeat (first | refine DO.nil (by kernel_rfl) ?_ | (with_reducible first | apply oz1 | apply oz2 | apply oz3 | apply oz4 | apply oz5 | apply oz6 | apply oz7 | apply oz8 | apply oz9 | apply ozb | apply ozc | apply oze | apply ozf | apply ozg | apply ozh | apply ozi | apply ozj | apply ozk | refine ozd (by decide) ?_) | ((first | apply SO.call | apply DO.call); (iterate 3 (focus (simp (disch := omega) only [go_sem, ↓reduceIte, zn1, zn2, zn3, zn4, zn5, zn6, reduceCtorEq, zn7, zi1, zi2, if_pos, if_neg, e0, e1, e2, q1, Bool.not_true] <;> rfl))); (first | apply SCall.ofX | apply DCall.ofX); (focus (first | assumption)); (focus (simp (disch := omega) only [go_sem, ↓reduceIte, zn1, zn2, zn3, zn4, zn5, zn6, reduceCtorEq, zn7, zi1, zi2, if_pos, if_neg, e0, e1, e2, q1, Bool.not_true] <;> rfl))) | ((with_reducible first | apply SC.condB | apply SC.region | apply SO.run | apply DO.run); (focus (simp (disch := omega) only [go_sem, ↓reduceIte, zn1, zn4, reduceCtorEq, e0, e1, e2, q1, Bool.not_true] <;> rfl)); (first | refine pickT ?_ | refine pickF ?_ | fail_if_success with_reducible refine pickA ?_)) | ((with_reducible refine SC.draw Tab.mixed ?_ ?_); (focus (first | rfl | simp (disch := omega) only [go_sem, ↓reduceIte, zn1, zn2, zn3, zn4, zn5, zn6, reduceCtorEq, zn7, zi1, zi2, if_pos, if_neg, e0, e1, e2, q1, Bool.not_true]))) | (with_reducible apply SC.ops)))
          exact retQ_ret Try.results44 (by simp (disch := omega) only [go_sem, ↓reduceIte] <;> rfl) (by simp (disch := omega) only [go_sem] <;> rfl) rfl
        · rw [decide_eq_false h2] at e2 ⊢
          by_cases h3 : i = j'
          · rw [decide_eq_true h3] at e3 ⊢
            generalize decide (j = i') = z at *
            refine Spec.run Try.func44 rfl Try.ntmps44 (by simp) (by simp (disch := omega) only [go_sem, zn4]; rfl) fun B hB => ?_
            (repeat (first | refine DO.nil (by kernel_rfl) ?_ | (with_reducible first | apply oz1 | apply oz2 | apply oz3 | apply oz4 | apply oz5 | apply oz6 | apply oz7 | apply oz8 | apply oz9 | apply ozb | apply ozc | apply oze | apply ozf | apply ozg | apply ozh | apply ozi | apply ozj | apply ozk | refine ozd (by decide) ?_) | ((first | apply SO.call | apply DO.call); (iterate 3 (focus (simp (disch := omega) only [go_sem, ↓reduceIte, zn1, zn2, zn3, zn4, zn5, zn6, reduceCtorEq, zn7, zi1, zi2, if_pos, if_neg, e0, e1, e2, e3, e4, q1, Bool.not_true] <;> rfl))); (first | apply SCall.ofX | apply DCall.ofX); (focus (first | assumption)); (focus (simp (disch := omega) only [go_sem, ↓reduceIte, zn1, zn2, zn3, zn4, zn5, zn6, reduceCtorEq, zn7, zi1, zi2, if_pos, if_neg, e0, e1, e2, e3, e4, q1, Bool.not_true] <;> rfl))) | ((with_reducible first | apply SC.condB | apply SC.region | apply SO.run | apply DO.run); (focus (simp (disch := omega) only [go_sem, ↓reduceIte, zn1, zn4, reduceCtorEq, e0, e1, e2, e3, e4, q1, Bool.not_true] <;> rfl)); (first | refine pickT ?_ | refine pickF ?_ | fail_if_success with_reducible refine pickA ?_)) | ((with_reducible refine SC.draw Tab.mixed ?_ ?_); (focus (first | rfl | simp (disch := omega) only [go_sem, ↓reduceIte, zn1, zn2, zn3, zn4, zn5, zn6, reduceCtorEq, zn7, zi1, zi2, if_pos, if_neg, e0, e1, e2, e3, e4, q1, Bool.not_true]))) | (with_reducible apply SC.ops)))
            exact retQ_ret Try.results44 (by simp (disch := omega) only [go_sem, ↓reduceIte] <;> rfl) (by simp (disch := omega) only [go_sem] <;> rfl) rfl
          · rw [decide_eq_false h3] at e3 ⊢
            refine Spec.run Try.func44 rfl Try.ntmps44 (by simp) (by simp (disch := omega) only [go_sem, zn4]; rfl) fun B hB => ?_
            (repeat (first | refine DO.nil (by kernel_rfl) ?_ | (with_reducible first | apply oz1 | apply oz2 | apply oz3 | apply oz4 | apply oz5 | apply oz6 | apply oz7 | apply oz8 | apply oz9 | apply ozb | apply ozc | apply oze | apply ozf | apply ozg | apply ozh | apply ozi | apply ozj | apply ozk | refine ozd (by decide) ?_) | ((first | apply SO.call | apply DO.call); (iterate 3 (focus (simp (disch := omega) only [go_sem, ↓reduceIte, zn1, zn2, zn3, zn4, zn5, zn6, reduceCtorEq, zn7, zi1, zi2, if_pos, if_neg, e0, e1, e2, e3, q1, Bool.not_true] <;> rfl))); (first | apply SCall.ofX | apply DCall.ofX); (focus (first | assumption)); (focus (simp (disch := omega) only [go_sem, ↓reduceIte, zn1, zn2, zn3, zn4, zn5, zn6, reduceCtorEq, zn7, zi1, zi2, if_pos, if_neg, e0, e1, e2, e3, q1, Bool.not_true] <;> rfl))) | ((with_reducible first | apply SC.condB | apply SC.region | apply SO.run | apply DO.run); (focus (simp (disch := omega) only [go_sem, ↓reduceIte, zn1, zn4, reduceCtorEq, e0, e1, e2, e3, q1, Bool.not_true] <;> rfl)); (first | refine pickT ?_ | refine pickF ?_ | fail_if_success with_reducible refine pickA ?_)) | ((with_reducible refine SC.draw Tab.mixed ?_ ?_); (focus (first | rfl | simp (disch := omega) only [go_sem, ↓reduceIte, zn1, zn2, zn3, zn4, zn5, zn6, reduceCtorEq, zn7, zi1, zi2, if_pos, if_neg, e0, e1, e2, e3, q1, Bool.not_true]))) | (with_reducible apply SC.ops)))
            exact retQ_ret Try.results44 (by simp (disch := omega) only [go_sem, ↓reduceIte] <;> rfl) (by simp (disch := omega) only [go_sem] <;> rfl) rfl
      · rw [decide_eq_false h1] at e1 ⊢
        by_cases h3 : i = j'
        · rw [decide_eq_true h3] at e3 ⊢
          generalize decide (j = i') = z at *
          refine Spec.run Try.func44 rfl Try.ntmps44 (by simp) (by simp (disch := omega) only [go_sem, zn4]; rfl) fun B hB => ?_
          (repeat (first | refine DO.nil (by kernel_rfl) ?_ | (with_reducible first | apply oz1 | apply oz2 | apply oz3 | apply oz4 | apply oz5 | apply oz6 | apply oz7 | apply oz8 | apply oz9 | apply ozb | apply ozc | apply oze | apply ozf | apply ozg | apply ozh | apply ozi | apply ozj | apply ozk | refine ozd (by decide) ?_) | ((first | apply SO.call | apply DO.call); (iterate 3 (focus (simp (disch := omega) only [go_sem, ↓reduceIte, zn1, zn2, zn3, zn4, zn5, zn6, reduceCtorEq, zn7, zi1, zi2, if_pos, if_neg, e0, e1, e2, e3, e4, q1, Bool.not_true] <;> rfl))); (first | apply SCall.ofX | apply DCall.ofX); (focus (first | assumption)); (focus (simp (disch := omega) only [go_sem, ↓reduceIte, zn1, zn2, zn3, zn4, zn5, zn6, reduceCtorEq, zn7, zi1, zi2, if_pos, if_neg, e0, e1, e2, e3, e4, q1, Bool.not_true] <;> rfl))) | ((with_reducible first | apply SC.condB | apply SC.region | apply SO.run | apply DO.run); (focus (simp (disch := omega) only [go_sem, ↓reduceIte, zn1, zn4, reduceCtorEq, e0, e1, e3, e4, q1, Bool.not_true] <;> rfl)); (first | refine pickT ?_ | refine pickF ?_ | fail_if_success with_reducible refine pickA ?_)) | ((with_reducible refine SC.draw Tab.mixed ?_ ?_); (focus (first | rfl | simp (disch := omega) only [go_sem, ↓reduceIte, zn1, zn2, zn3, zn4, zn5, zn6, reduceCtorEq, zn7, zi1, zi2, if_pos, if_neg, e0, e1, e2, e3, e4, q1, Bool.not_true]))) | (with_reducible apply SC.ops)))
          exact retQ_ret Try.results44 (by simp (disch := omega) only [go_sem, ↓reduceIte] <;> rfl) (by simp (disch := omega) only [go_sem] <;> rfl) rfl
        · rw [decide_eq_false h3] at e3 ⊢
          refine Spec.run Try.func44 rfl Try.ntmps44 (by simp) (by simp (disch := omega) only [go_sem, zn4]; rfl) fun B hB => ?_
          (repeat (first | refine DO.nil (by kernel_rfl) ?_ | (with_reducible first | apply oz1 | apply oz2 | apply oz3 | apply oz4 | apply oz5 | apply oz6 | apply oz7 | apply oz8 | apply oz9 | apply ozb | apply ozc | apply oze | apply ozf | apply ozg | apply ozh | apply ozi | apply ozj | apply ozk | refine ozd (by decide) ?_) | ((first | apply SO.call | apply DO.call); (iterate 3 (focus (simp (disch := omega) only [go_sem, ↓reduceIte, zn1, zn2, zn3, zn4, zn5, zn6, reduceCtorEq, zn7, zi1, zi2, if_pos, if_neg, e0, e1, e2, e3, q1, Bool.not_true] <;> rfl))); (first | apply SCall.ofX | apply DCall.ofX); (focus (first | assumption)); (focus (simp (disch := omega) only [go_sem, ↓reduceIte, zn1, zn2, zn3, zn4, zn5, zn6, reduceCtorEq, zn7, zi1, zi2, if_pos, if_neg, e0, e1, e2, e3, q1, Bool.not_true] <;> rfl))) | ((with_reducible first | apply SC.condB | apply SC.region | apply SO.run | apply DO.run); (focus (simp (disch := omega) only [go_sem, ↓reduceIte, zn1, zn4, reduceCtorEq, e0, e1, e3, q1, Bool.not_true] <;> rfl)); (first | refine pickT ?_ | refine pickF ?_ | fail_if_success with_reducible refine pickA ?_)) | ((with_reducible refine SC.draw Tab.mixed ?_ ?_); (focus (first | rfl | simp (disch := omega) only [go_sem, ↓reduceIte, zn1, zn2, zn3, zn4, zn5, zn6, reduceCtorEq, zn7, zi1, zi2, if_pos, if_neg, e0, e1, e2, e3, q1, Bool.not_true]))) | (with_reducible apply SC.ops)))
          exact retQ_ret Try.results44 (by simp (disch := omega) only [go_sem, ↓reduceIte] <;> rfl) (by simp (disch := omega) only [go_sem] <;> rfl) rfl
    · have q1 : (((2 : Nat) : Int) == 1) = false := rfl
      have q2 : (((2 : Nat) : Int) == 2) = true := rfl
      rw [if_neg (by decide), if_pos rfl]
      by_cases h1 : i = i'
      · rw [decide_eq_true h1] at e1 ⊢
        generalize decide (j = j') = z at *
        refine Spec.run Try.func44 rfl Try.ntmps44 (by simp) (by simp (disch := omega) only [go_sem, zn4]; rfl) fun B hB => ?_
        (repeat (first | refine DO.nil (by kernel_rfl) ?_ | (with_reducible first | apply oz1 | apply oz2 | apply oz3 | apply oz4 | apply oz5 | apply oz6 | apply oz7 | apply oz8 | apply oz9 | apply ozb | apply ozc | apply oze | apply ozf | apply ozg | apply ozh | apply ozi | apply ozj | apply ozk | refine ozd (by decide) ?_) | ((first | apply SO.call | apply DO.call); (iterate 3 (focus (simp (disch := omega) only [go_sem, ↓reduceIte, zn1, zn2, zn3, zn4, zn5, zn6, reduceCtorEq, zn7, zi1, zi2, if_pos, if_neg, e0, e1, e2, q1, q2, Bool.not_true] <;> rfl))); (first | apply SCall.ofX | apply DCall.ofX); (focus (first | assumption)); (focus (simp (disch := omega) only [go_sem, ↓reduceIte, zn1, zn2, zn3, zn4, zn5, zn6, reduceCtorEq, zn7, zi1, zi2, if_pos, if_neg, e0, e1, e2, q1, q2, Bool.not_true] <;> rfl))) | ((with_reducible first | apply SC.condB | apply SC.region | apply SO.run | apply DO.run); (focus (simp (disch := omega) only [go_sem, ↓reduceIte, zn1, zn4, reduceCtorEq, e0, e1, e2, q1, q2, Bool.not_true] <;> rfl)); (first | refine pickT ?_ | refine pickF ?_ | fail_if_success with_reducible refine pickA ?_)) | ((with_reducible refine SC.draw Tab.mixed ?_ ?_); (focus (first | rfl | simp (disch := omega) only [go_sem, ↓reduceIte, zn1, zn2, zn3, zn4, zn5, zn6, reduceCtorEq, zn7, zi1, zi2, if_pos, if_neg, e0, e1, e2, q1, q2, Bool.not_true]))) | (with_reducible apply SC.ops)))
        exact retQ_ret Try.results44 (by simp (disch := omega) only [go_sem, ↓reduceIte] <;> rfl) (by simp (disch := omega) only [go_sem] <;> rfl) rfl
      · rw [decide_eq_false h1] at e1 ⊢
        refine Spec.run Try.func44 rfl Try.ntmps44 (by simp) (by simp (disch := omega) only [go_sem, zn4]; rfl) fun B hB => ?_
        (repeat (first | refine DO.nil (by kernel_rfl) ?_ | (with_reducible first | apply oz1 | apply oz2 | apply oz3 | apply oz4 | apply oz5 | apply oz6 | apply oz7 | apply oz8 | apply oz9 | apply ozb | apply ozc | apply oze | apply ozf | apply ozg | apply ozh | apply ozi | apply ozj | apply ozk | refine ozd (by decide) ?_) | ((first | apply SO.call | apply DO.call); (iterate 3 (focus (simp (disch := omega) only [go_sem, ↓reduceIte, zn1, zn2, zn3, zn4, zn5, zn6, reduceCtorEq, zn7, zi1, zi2, if_pos, if_neg, e0, e1, e2, q1, q2, Bool.not_true] <;> rfl))); (first | apply SCall.ofX | apply DCall.ofX); (focus (first | assumption)); (focus (simp (disch := omega) only [go_sem, ↓reduceIte, zn1, zn2, zn3, zn4, zn5, zn6, reduceCtorEq, zn7, zi1, zi2, if_pos, if_neg, e0, e1, e2, q1, q2, Bool.not_true] <;> rfl))) | ((with_reducible first | apply SC.condB | apply SC.region | apply SO.run | apply DO.run); (focus (simp (disch := omega) only [go_sem, ↓reduceIte, zn1, zn4, reduceCtorEq, e0, e1, q1, q2, Bool.not_true] <;> rfl)); (first | refine pickT ?_ | refine pickF ?_ | fail_if_success with_reducible refine pickA ?_)) | ((with_reducible refine SC.draw Tab.mixed ?_ ?_); (focus (first | rfl | simp (disch := omega) only [go_sem, ↓reduceIte, zn1, zn2, zn3, zn4, zn5, zn6, reduceCtorEq, zn7, zi1, zi2, if_pos, if_neg, e0, e1, e2, q1, q2, Bool.not_true]))) | (with_reducible apply SC.ops)))
        exact retQ_ret Try.results44 (by simp (disch := omega) only [go_sem, ↓reduceIte] <;> rfl) (by simp (disch := omega) only [go_sem] <;> rfl) rfl
    · have q1 : (((3 : Nat) : Int) == 1) = false := rfl
      have q2 : (((3 : Nat) : Int) == 2) = false := rfl
      rw [if_neg (by decide), if_neg (by decide)]
      by_cases h1 : i = i'
      · rw [decide_eq_true h1] at e1 ⊢
        generalize decide (j = j') = z at *
        refine Spec.run Try.func44 rfl Try.ntmps44 (by simp) (by simp (disch := omega) only [go_sem, zn4]; rfl) fun B hB => ?_
        (repeat (first | refine DO.nil (by kernel_rfl) ?_ | (with_reducible first | apply oz1 | apply oz2 | apply oz3 | apply oz4 | apply oz5 | apply oz6 | apply oz7 | apply oz8 | apply oz9 | apply ozb | apply ozc | apply oze | apply ozf | apply ozg | apply ozh | apply ozi | apply ozj | apply ozk | refine ozd (by decide) ?_) | ((first | apply SO.call | apply DO.call); (iterate 3 (focus (simp (disch := omega) only [go_sem, ↓reduceIte, zn1, zn2, zn3, zn4, zn5, zn6, reduceCtorEq, zn7, zi1, zi2, if_pos, if_neg, e0, e1, e2, q1, q2, Bool.not_true] <;> rfl))); (first | apply SCall.ofX | apply DCall.ofX); (focus (first | assumption)); (focus (simp (disch := omega) only [go_sem, ↓reduceIte, zn1, zn2, zn3, zn4, zn5, zn6, reduceCtorEq, zn7, zi1, zi2, if_pos, if_neg, e0, e1, e2, q1, q2, Bool.not_true] <;> rfl))) | ((with_reducible first | apply SC.condB | apply SC.region | apply SO.run | apply DO.run); (focus (simp (disch := omega) only [go_sem, ↓reduceIte, zn1, zn2, zn4, reduceCtorEq, e0, e1, e2, q1, q2, Bool.not_true] <;> rfl)); (first | refine pickT ?_ | refine pickF ?_ | fail_if_success with_reducible refine pickA ?_)) | ((with_reducible refine SC.draw Tab.mixed ?_ ?_); (focus (first | rfl | simp (disch := omega) only [go_sem, ↓reduceIte, zn1, zn2, zn3, zn4, zn5, zn6, reduceCtorEq, zn7, zi1, zi2, if_pos, if_neg, e0, e1, e2, q1, q2, Bool.not_true]))) | (with_reducible apply SC.ops)))
        exact retQ_ret Try.results44 (by simp (disch := omega) only [go_sem, ↓reduceIte] <;> rfl) (by simp (disch := omega) only [go_sem] <;> rfl) rfl
      · rw [decide_eq_false h1] at e1 ⊢
        refine Spec.run Try.func44 rfl Try.ntmps44 (by simp) (by simp (disch := omega) only [go_sem, zn4]; rfl) fun B hB => ?_
        (repeat (first | refine DO.nil (by kernel_rfl) ?_ | (with_reducible first | apply oz1 | apply oz2 | apply oz3 | apply oz4 | apply oz5 | apply oz6 | apply oz7 | apply oz8 | apply oz9 | apply ozb | apply ozc | apply oze | apply ozf | apply ozg | apply ozh | apply ozi | apply ozj | apply ozk | refine ozd (by decide) ?_) | ((first | apply SO.call | apply DO.call); (iterate 3 (focus (simp (disch := omega) only [go_sem, ↓reduceIte, zn1, zn2, zn3, zn4, zn5, zn6, reduceCtorEq, zn7, zi1, zi2, if_pos, if_neg, e0, e1, e2, q1, q2, Bool.not_true] <;> rfl))); (first | apply SCall.ofX | apply DCall.ofX); (focus (first | assumption)); (focus (simp (disch := omega) only [go_sem, ↓reduceIte, zn1, zn2, zn3, zn4, zn5, zn6, reduceCtorEq, zn7, zi1, zi2, if_pos, if_neg, e0, e1, e2, q1, q2, Bool.not_true] <;> rfl))) | ((with_reducible first | apply SC.condB | apply SC.region | apply SO.run | apply DO.run); (focus (simp (disch := omega) only [go_sem, ↓reduceIte, zn1, zn2, zn4, reduceCtorEq, e0, e1, q1, q2, Bool.not_true] <;> rfl)); (first | refine pickT ?_ | refine pickF ?_ | fail_if_success with_reducible refine pickA ?_)) | ((with_reducible refine SC.draw Tab.mixed ?_ ?_); (focus (first | rfl | simp (disch := omega) only [go_sem, ↓reduceIte, zn1, zn2, zn3, zn4, zn5, zn6, reduceCtorEq, zn7, zi1, zi2, if_pos, if_neg, e0, e1, e2, q1, q2, Bool.not_true]))) | (with_reducible apply SC.ops)))
        exact retQ_ret Try.results44 (by simp (disch := omega) only [go_sem, ↓reduceIte] <;> rfl) (by simp (disch := omega) only [go_sem] <;> rfl) rfl
  · rw [decide_eq_false h0] at e0
    rw [if_neg h0]
    refine Spec.run Try.func44 rfl Try.ntmps44 (by simp) (by simp (disch := omega) only [go_sem, zn4]; rfl) fun B hB => ?_
    (repeat (first | refine DO.nil (by kernel_rfl) ?_ | (with_reducible first | apply oz1 | apply oz2 | apply oz3 | apply oz4 | apply oz5 | apply oz6 | apply oz7 | apply oz8 | apply oz9 | apply ozb | apply ozc | apply oze | apply ozf | apply ozg | apply ozh | apply ozi | apply ozj | apply ozk | refine ozd (by decide) ?_) | ((first | apply SO.call | apply DO.call); (iterate 3 (focus (simp (disch := omega) only [go_sem, ↓reduceIte, zn1, zn2, zn3, zn4, zn5, zn6, reduceCtorEq, zn7, zi1, zi2, if_pos, if_neg, e0, Bool.not_false] <;> rfl))); (first | apply SCall.ofX | apply DCall.ofX); (focus (first | assumption)); (focus (simp (disch := omega) only [go_sem, ↓reduceIte, zn1, zn2, zn3, zn4, zn5, zn6, reduceCtorEq, zn7, zi1, zi2, if_pos, if_neg, e0, Bool.not_false] <;> rfl))) | ((with_reducible first | apply SC.condB | apply SC.region | apply SO.run | apply DO.run); (focus (simp (disch := omega) only [go_sem, ↓reduceIte, zn1, zn4, reduceCtorEq, e0, Bool.not_false] <;> rfl)); (first | refine pickT ?_ | refine pickF ?_ | fail_if_success with_reducible refine pickA ?_)) | ((with_reducible refine SC.draw Tab.mixed ?_ ?_); (focus (first | rfl | simp (disch := omega) only [go_sem, ↓reduceIte, zn1, zn2, zn3, zn4, zn5, zn6, reduceCtorEq, zn7, zi1, zi2, if_pos, if_neg, e0, Bool.not_false]))) | (with_reducible apply SC.ops)))
    exact retQ_ret Try.results44 (by simp (disch := omega) only [go_sem, ↓reduceIte] <;> rfl) (by simp (disch := omega) only [go_sem] <;> rfl) rfl
end Go.Proofs.Ytfhcmibgpddggaa
namespace Go.Proofs.Ytfhcmibgpddggaa
open Go.RowKit
def lastO (r : List OpL) : OpL := r.getD (r.length - 1) ⟨0, 0, 0, 0⟩
def stepC (r : List OpL) (o : OpL) : List OpL :=
  if o.kd = 3 ∧ o.k = 0 then r
  else if r.length = 0 then r ++ [o]
  else if meetB (lastO r) o = false then r ++ [o]
  else if o.kd = 3 ∧ (lastO r).k + o.k ≠ 0 then r.take (r.length - 1) ++ [⟨(lastO r).kd, (lastO r).i, (lastO r).j, (lastO r).k + o.k⟩]
  else r.take (r.length - 1)
def compL (l : List OpL) : List OpL := l.foldl stepC []
theorem comp_snoc (l : List OpL) (o : OpL) : compL (l ++ [o]) = stepC (compL l) o := by simp [compL, List.foldl_append]
theorem snoc_last {r : List OpL} (h : r.length ≠ 0) : r = r.take (r.length - 1) ++ [lastO r] := by
  have := take_snoc (d := (⟨0, 0, 0, 0⟩ : OpL)) (l := r) (i := r.length - 1) (by omega)
  rw [show r.length - 1 + 1 = r.length by omega, List.take_of_length_le (Nat.le_refl _)] at this
  exact this
theorem stepC_len (r : List OpL) (o : OpL) : (stepC r o).length ≤ r.length + 1 := by
  unfold stepC
  split
  · omega
  · split
    · simp
    · split
      · simp
      · split
        · simp only [List.length_append, List.length_take, List.length_cons, List.length_nil]; omega
        · simp only [List.length_take]; omega
theorem comp_len : ∀ (l : List OpL), (compL l).length ≤ l.length := by
  have key : ∀ (l r : List OpL), (l.foldl stepC r).length ≤ r.length + l.length := by
    intro l
    induction l with
    | nil => intro r; simp
    | cons o l ih =>
      intro r
      have h1 := ih (stepC r o)
      have h2 := stepC_len r o
      simp only [List.foldl_cons, List.length_cons]
      omega
  intro l
  have := key l []
  simpa [compL] using this
theorem setAll_pre : ∀ (A B ys : List V) (i : Nat), setAll (A ++ B) (A.length + i) ys = A ++ setAll B i ys
  | [], B, ys, i => by rw [List.nil_append, List.nil_append, List.length_nil, Nat.zero_add]
  | x :: A, B, ys, i => by
    have ih := setAll_pre A B ys i
    rw [List.cons_append, List.length_cons, show A.length + 1 + i = (A.length + i) + 1 by omega]
    show setAll (x :: (A ++ B)) (A.length + i + 1) ys = x :: (A ++ setAll B i ys)
    rw [← ih]
    clear ih
    generalize A ++ B = L
    generalize A.length + i = n
    induction ys generalizing L n with
    | nil => rfl
    | cons y ys ih => exact ih (L.set n y) (n + 1)
def KB (B : Nat) (r : List OpL) : Prop := ∀ o ∈ r, o.k.natAbs ≤ B
theorem kb_fits {B : Nat} {z : Int} (h : z.natAbs ≤ B) (hB : B ≤ 4000000000) : Fits 1 z := by unfold Fits; omega
theorem kb_last {B : Nat} {r : List OpL} (h : KB B r) (hr : r.length ≠ 0) : (lastO r).k.natAbs ≤ B := h _ (getD_mem (d := (⟨0, 0, 0, 0⟩ : OpL)) (by omega))
theorem kb_step {B D : Nat} {r : List OpL} {o : OpL} (h : KB B r) (ho : o.k.natAbs ≤ D) (hBD : D ≤ B) : KB (B + D) (stepC r o) := by
  have h1 : KB (B + D) r := fun p hp => by have := h p hp; omega
  have h2 : KB (B + D) (r ++ [o]) := fun p hp => by
    rcases List.mem_append.1 hp with g | g
    · exact h1 p g
    · rw [List.mem_singleton.1 g]; omega
  unfold stepC
  split
  · exact h1
  · split
    · exact h2
    · rename_i hr
      split
      · exact h2
      · split
        · intro p hp
          rcases List.mem_append.1 hp with g | g
          · exact h1 p (List.mem_of_mem_take g)
          · rw [List.mem_singleton.1 g]
            have := kb_last h hr
            have := Int.natAbs_add_le (lastO r).k o.k
            simp only
            omega
        · exact fun p hp => h1 p (List.mem_of_mem_take hp)
set_option maxHeartbeats 16000000 in
set_option maxRecDepth 8000 in
theorem compact_s {n D : Nat} {l : List OpL} (h : ∀ o ∈ l, OkOp n o) (hD : KB D l) (hl : l.length ≤ 1000) (hD2 : D ≤ 100000) : Spec Try.prog 18 [.im (opsC l) l.length] (.im (opsC (compL l)) (compL l).length) := by
  refine Spec.run Try.func18 rfl Try.ntmps18 (by simp) (by simp (disch := omega) only [go_sem]; rfl) fun B hB => ?_
  (repeat (first | refine DO.nil (by kernel_rfl) ?_ | (with_reducible first | apply oz1 | apply oz2 | apply oz3 | apply oz4 | apply oz5 | apply oz6 | apply oz7 | apply oz8 | apply oz9 | apply ozb | apply ozc | apply oze | apply ozf | apply ozg | apply ozh | apply ozi | apply ozj | apply ozk | refine ozd (by decide) ?_) | ((first | apply SO.call | apply DO.call); (iterate 3 (focus (simp (disch := omega) only [go_sem, ↓reduceIte, zn1, zn2, zn3, zn4, zn5, zn6, reduceCtorEq, zn7, zi1, zi2, if_pos, if_neg] <;> rfl))); (first | apply SCall.ofX | apply DCall.ofX); (focus (first | assumption)); (focus (simp (disch := omega) only [go_sem, ↓reduceIte, zn1, zn2, zn3, zn4, zn5, zn6, reduceCtorEq, zn7, zi1, zi2, if_pos, if_neg] <;> rfl))) | ((with_reducible first | apply SC.condB | apply SC.region | apply SO.run | apply DO.run); (focus (simp (disch := omega) only [go_sem, ↓reduceIte, reduceCtorEq] <;> rfl)); (first | refine pickT ?_ | refine pickF ?_ | fail_if_success with_reducible refine pickA ?_)) | ((with_reducible refine SC.draw Tab.mixed ?_ ?_); (focus (first | rfl | simp (disch := omega) only [go_sem, ↓reduceIte, zn1, zn2, zn3, zn4, zn5, zn6, reduceCtorEq, zn7, zi1, zi2, if_pos, if_neg]))) | (with_reducible apply SC.ops)))
  refine SC.loop (fun x : Nat × List OpL × List V => ⟨[(8, .im (opsC l) l.length), (9, .sc (.int .i64 l.length)), (10, .sc (.int .i64 x.1)), (3, .sl 0 0 x.2.1.length 5 none)], [(0, ⟨56, opsC x.2.1 ++ x.2.2, false⟩)], 1, 65⟩)
    (fun x => x.1 ≤ l.length ∧ x.2.1 = compL (l.take x.1) ∧ x.2.2.all clo = true ∧ KB (D + D * x.1) x.2.1) (fun x => l.length - x.1) (0, [], []) ?_ ?_ ?_
  · refine Le.map (fun i => i) (fun _ => False) hB (fun i hi => by omega) (fun i h => h.elim) (fun i j h _ _ => h.elim) ?_ (fun i k' _ h => h.elim)
    (repeat' (first | exact trivial | refine mapSl_cons (by simp (disch := omega) only [go_sem, ↓reduceIte, zn1] <;> rfl) ?_ ?_ | exact VMap.junk _ | exact VMap.sc _ | exact VMap.clo rfl | exact VMap.sl rfl (by omega) | exact VMap.cap rfl (by omega) | exact VMap.pt rfl (by omega) | exact VMap.nil_sl _ _ _ | exact VMap.int (by first | rfl | omega | (dsimp only; omega))))
  · exact ⟨Nat.zero_le _, rfl, rfl, fun o ho => by cases ho⟩
  · rintro ⟨t, r, T⟩ ⟨ht, hr, hT, hB2⟩ K hK
    simp only at ht hr hT hB2 ⊢
    have hrl : r.length ≤ 1000 := by
      have := comp_len (l.take t)
      rw [← hr, List.length_take] at this
      omega
    have glr := opsC_len r
    have gl : (opsC r ++ T).length = r.length * 5 + T.length := by rw [List.length_append, glr]; omega
    have hone := opsC_one r
    have hclo := opsC_clo r
    have htk : (opsC r ++ T).take (r.length * 5) = opsC r := by rw [List.take_append_of_le_length (by omega), List.take_of_length_le (by omega)]
    have hCc : (opsC r ++ T).all clo = true := by rw [List.all_append, hclo, hT]; rfl
    by_cases hc : t < l.length
    · have q1 : decide ((t : Int) < (l.length : Int)) = true := decide_eq_true (by omega)
      have g1 := opsC_drop hc
      have g2 : t * 5 < (opsC l).length := by rw [opsC_len]; omega
      have hmem := getD_mem (d := (⟨0, 0, 0, 0⟩ : OpL)) hc
      have hok := h _ hmem
      have hkD := hD _ hmem
      have hts := take_snoc (d := (⟨0, 0, 0, 0⟩ : OpL)) hc
      have hnew : compL (l.take (t + 1)) = stepC r (l.getD t ⟨0, 0, 0, 0⟩) := by rw [hts, comp_snoc, hr]
      have hKBn := kb_step hB2 hkD (by have := Nat.le_add_right D (D * t); omega)
      have hDt : D * t ≤ 100000 * 1000 := Nat.mul_le_mul hD2 (by omega)
      have hDe : D + D * t + D = D + D * (t + 1) := by rw [Nat.mul_add]; omega
      rw [hDe] at hKBn
      generalize hop : l.getD t ⟨0, 0, 0, 0⟩ = o at *
      generalize (opsC l).drop ((t + 1) * 5) = G at *
      have fin : ∀ (s' : SS) (r' : List OpL) (T' : List V), r' = stepC r o → T'.all clo = true → Le B s' ⟨[(8, .im (opsC l) l.length), (9, .sc (.int .i64 l.length)), (10, .sc (.int .i64 (t + 1 : Nat))), (3, .sl 0 0 r'.length 5 none)], [(0, ⟨56, opsC r' ++ T', false⟩)], 1, 65⟩ → K s' := fun s' r' T' e1 e2 e3 =>
        hK s' (t + 1, r', T') e3 ⟨by simp only; omega, by rw [hnew]; exact e1, e2, by rw [e1]; exact hKBn⟩ (by simp only; omega)
      have happ : ∀ (s' : SS) (cs : List V), r ++ [o] = stepC r o → cs = opC o → (Le B s' ⟨[(8, .im (opsC l) l.length), (9, .sc (.int .i64 l.length)), (10, .sc (.int .i64 (t + 1 : Nat))), (3, .sl 0 0 (r.length + 1) 5 none)], [(0, ⟨56, opsC r ++ cs, false⟩)], 1, 65⟩ → K s') := fun s' cs e1 e2 e3 => by
        refine fin s' (r ++ [o]) [] e1 rfl ?_
        have e : opsC (r ++ [o]) ++ [] = opsC r ++ cs := by rw [List.append_nil, opsC_app, e2]; show _ ++ (opC o ++ []) = _; rw [List.append_nil]
        rw [e, List.length_append]
        exact e3
      clear hK hnew hts hKBn
      obtain ⟨kd, i, j, k⟩ := o
      have hkk := hok.k
      simp only at hkk hkD
      have c1 := psign_i k 1 hkk (by omega)
      have hkd : kd = 1 ∨ kd = 2 ∨ kd = 3 := by rcases hok.c with ⟨e, _⟩ | ⟨e, _⟩ | ⟨e, _⟩ <;> simp only at e <;> omega
      unfold opC sv at g1
      simp only [List.cons_append, List.nil_append] at g1
      unfold iv sv at c1
      by_cases hA : kd = 3 ∧ k = 0
      · obtain ⟨rfl, rfl⟩ := hA
        have q3 : (((3 : Nat) : Int) == 3) = true := rfl
        have q4 : ((0 : Int).sign == 0) = true := rfl
        (repeat (first | refine DO.nil (by kernel_rfl) ?_ | (with_reducible first | apply oz1 | apply oz2 | apply oz3 | apply oz4 | apply oz5 | apply oz6 | apply oz7 | apply oz8 | apply oz9 | apply ozb | apply ozc | apply oze | apply ozf | apply ozg | apply ozh | apply ozi | apply ozj | apply ozk | refine ozd (by decide) ?_) | ((first | apply SO.call | apply DO.call); (iterate 3 (focus (simp (disch := omega) only [go_sem, ↓reduceIte, zn1] <;> rfl))); (first | apply SCall.ofX | apply DCall.ofX); (focus (first | assumption)); (focus (simp (disch := omega) only [go_sem] <;> rfl))) | ((with_reducible first | apply SC.condB | apply SC.region | apply SO.run | apply DO.run); (focus (simp (disch := omega) only [go_sem, ↓reduceIte, zn1, zn3, zn4, reduceCtorEq, if_pos, q1, g1, g2, q3, q4] <;> rfl)); (first | refine pickT ?_ | refine pickF ?_ | fail_if_success with_reducible refine pickA ?_)) | ((with_reducible refine SC.draw Tab.mixed ?_ ?_); (focus (first | rfl | simp (disch := omega) only [go_sem, ↓reduceIte, zn1, zn2, zn3, zn4, zn5, zn6, reduceCtorEq, zn7, zi1, zi2, if_pos, if_neg, q1, g1, g2, q3, q4, gl]))) | (with_reducible apply SC.ops)))
        refine fin _ r T (by unfold stepC; rw [if_pos ⟨rfl, rfl⟩]) hT ?_
        refine Le.ren 5 1 hB (by omega) (by omega) (by omega) ?_ ?_
        · (repeat' (first | exact trivial | refine mapSl_cons (by simp (disch := omega) only [go_sem, ↓reduceIte, zn1] <;> rfl) ?_ ?_ | exact VMap.junk _ | exact VMap.sc _ | exact VMap.clo rfl | exact VMap.sl rfl (by omega) | exact VMap.cap rfl (by omega) | exact VMap.pt rfl (by omega) | exact VMap.nil_sl _ _ _ | exact VMap.int (by first | rfl | omega | (dsimp only; omega))))
        · exact mapHp_cons (by rfl) (BMap.clo hCc) mapHp_nil
      · have hq : (kd = 3 ∧ ((kd : Int) == 3) = true ∧ (k.sign == 0) = false) ∨ (kd ≠ 3 ∧ ((kd : Int) == 3) = false) := by
          by_cases h3 : kd = 3
          · refine .inl ⟨h3, by subst h3; rfl, ?_⟩
            rw [beq_eq_false_iff_ne]
            intro e
            exact hA ⟨h3, Int.sign_eq_zero_iff_zero.1 e⟩
          · exact .inr ⟨h3, by rw [beq_eq_false_iff_ne]; omega⟩
        by_cases hz : r.length = 0
        · have q5 : decide ((r.length : Int) - 1 < 0) = true := decide_eq_true (by omega)
          have est : r ++ [⟨kd, i, j, k⟩] = stepC r ⟨kd, i, j, k⟩ := by unfold stepC; rw [if_neg hA, if_pos hz]
          have hix : True := trivial
          rcases hq with ⟨_, q3, q4⟩ | ⟨_, q3⟩
          · (repeat (first | refine DO.nil (by kernel_rfl) ?_ | (with_reducible first | apply oz1 | apply oz2 | apply oz3 | apply oz4 | apply oz5 | apply oz6 | apply oz7 | apply oz8 | apply oz9 | apply ozb | apply ozc | apply oze | apply ozf | apply ozg | apply ozh | apply ozi | apply ozj | apply ozk | refine ozd (by decide) ?_) | ((first | apply SO.call | apply DO.call); (iterate 3 (focus (simp (disch := omega) only [go_sem, ↓reduceIte, zn1, List.append_nil] <;> rfl))); (first | apply SCall.ofX | apply DCall.ofX); (focus (first | assumption)); (focus (simp (disch := omega) only [go_sem] <;> rfl))) | ((with_reducible first | apply SC.condB | apply SC.region | apply SO.run | apply DO.run); (focus (simp (disch := omega) only [go_sem, ↓reduceIte, zn1, zn3, zn4, zn5, reduceCtorEq, if_pos, q1, g1, g2, q3, q4, q5, gl, htk, reps1, List.append_nil] <;> rfl)); (first | refine pickT ?_ | refine pickF ?_ | fail_if_success with_reducible refine pickA ?_)) | ((with_reducible refine SC.draw Tab.mixed ?_ ?_); (focus (first | rfl | simp (disch := omega) only [go_sem, ↓reduceIte, zn1, zn2, zn3, zn4, zn5, zn6, reduceCtorEq, zn7, zi1, zi2, if_pos, if_neg, q1, g1, g2, q3, q4, q5, hix, gl, htk, hone, reps1, List.flatten_cons, List.flatten_nil, List.append_nil]))) | (with_reducible apply SC.ops)))
            refine happ _ _ (est) rfl ?_
            refine Le.ren 0 3 hB (by omega) (by omega) (by omega) ?_ ?_
            · (repeat' (first | exact trivial | refine mapSl_cons (by simp (disch := omega) only [go_sem, ↓reduceIte, zn1] <;> rfl) ?_ ?_ | exact VMap.junk _ | exact VMap.sc _ | exact VMap.clo rfl | exact VMap.sl rfl (by omega) | exact VMap.cap rfl (by omega) | exact VMap.pt rfl (by omega) | exact VMap.nil_sl _ _ _ | exact VMap.int (by first | rfl | omega | (dsimp only; omega))))
            · exact mapHp_cons (by rfl) (bmapTail hclo (by repeat' (first | exact mapL_nil | refine mapL_cons ?_ ?_ | exact VMap.nil_im | exact VMap.clo rfl | exact VMap.sc _))) mapHp_nil
          · (repeat (first | refine DO.nil (by kernel_rfl) ?_ | (with_reducible first | apply oz1 | apply oz2 | apply oz3 | apply oz4 | apply oz5 | apply oz6 | apply oz7 | apply oz8 | apply oz9 | apply ozb | apply ozc | apply oze | apply ozf | apply ozg | apply ozh | apply ozi | apply ozj | apply ozk | refine ozd (by decide) ?_) | ((first | apply SO.call | apply DO.call); (iterate 3 (focus (simp (disch := omega) only [go_sem, ↓reduceIte, zn1, List.append_nil] <;> rfl))); (first | apply SCall.ofX | apply DCall.ofX); (focus (first | assumption)); (focus (simp (disch := omega) only [go_sem, ↓reduceIte, zn1, zn2, zn3, zn4, zn5, zn6, reduceCtorEq, zn7, zi1, zi2, if_pos, if_neg, q1, g1, g2, q3, q5, hix, gl, htk, hone, reps1, List.flatten_cons, List.flatten_nil, List.append_nil] <;> rfl))) | ((with_reducible first | apply SC.condB | apply SC.region | apply SO.run | apply DO.run); (focus (simp (disch := omega) only [go_sem, ↓reduceIte, zn1, zn3, zn4, zn5, reduceCtorEq, if_pos, q1, g1, g2, q3, q5, gl, htk, reps1, List.append_nil] <;> rfl)); (first | refine pickT ?_ | refine pickF ?_ | fail_if_success with_reducible refine pickA ?_)) | ((with_reducible refine SC.draw Tab.mixed ?_ ?_); (focus (first | rfl | simp (disch := omega) only [go_sem, ↓reduceIte, zn1, zn2, zn3, zn4, zn5, zn6, reduceCtorEq, zn7, zi1, zi2, if_pos, if_neg, q1, g1, g2, q3, q5, hix, gl, htk, hone, reps1, List.flatten_cons, List.flatten_nil, List.append_nil]))) | (with_reducible apply SC.ops)))
            refine happ _ _ (est) rfl ?_
            refine Le.ren 0 3 hB (by omega) (by omega) (by omega) ?_ ?_
            · (repeat' (first | exact trivial | refine mapSl_cons (by simp (disch := omega) only [go_sem, ↓reduceIte, zn1] <;> rfl) ?_ ?_ | exact VMap.junk _ | exact VMap.sc _ | exact VMap.clo rfl | exact VMap.sl rfl (by omega) | exact VMap.cap rfl (by omega) | exact VMap.pt rfl (by omega) | exact VMap.nil_sl _ _ _ | exact VMap.int (by first | rfl | omega | (dsimp only; omega))))
            · exact mapHp_cons (by rfl) (bmapTail hclo (by repeat' (first | exact mapL_nil | refine mapL_cons ?_ ?_ | exact VMap.nil_im | exact VMap.clo rfl | exact VMap.sc _))) mapHp_nil
        · have q5 : decide ((r.length : Int) - 1 < 0) = false := decide_eq_false (by omega)
          have hix : ((r.length : Int) - 1).toNat = r.length - 1 := by omega
          have hsl := snoc_last hz
          have htl2 : (r.take (r.length - 1)).length = r.length - 1 := by rw [List.length_take]; omega
          have hlast := kb_last hB2 hz
          have c2 := meet_s (lastO r) ⟨kd, i, j, k⟩ hkd
          have hsp : opsC r ++ T = opsC (r.take (r.length - 1)) ++ (opC (lastO r) ++ T) := by
            rw [← List.append_assoc]
            congr 1
            have e := congrArg opsC hsl
            rw [opsC_app] at e
            rw [e]; show _ ++ (_ ++ []) = _; rw [List.append_nil]
          have glp := opsC_len (r.take (r.length - 1))
          rw [htl2] at glp
          have gC : (opsC r ++ T).drop ((r.length - 1) * 5) = opC (lastO r) ++ T := by
            rw [hsp, List.drop_append_of_le_length (by omega), List.drop_of_length_le (by omega), List.nil_append]
          have gC2 : (r.length - 1) * 5 < (opsC r ++ T).length := by omega
          have est1 : meetB (lastO r) ⟨kd, i, j, k⟩ = false → r ++ [⟨kd, i, j, k⟩] = stepC r ⟨kd, i, j, k⟩ := fun hm => by unfold stepC; rw [if_neg hA, if_neg hz, if_pos hm]
          have est2 : meetB (lastO r) ⟨kd, i, j, k⟩ = true → kd = 3 → (lastO r).k + k ≠ 0 → r.take (r.length - 1) ++ [⟨(lastO r).kd, (lastO r).i, (lastO r).j, (lastO r).k + k⟩] = stepC r ⟨kd, i, j, k⟩ := fun hm h3 h4 => by unfold stepC; rw [if_neg hA, if_neg hz, if_neg (by rw [hm]; decide), if_pos ⟨h3, h4⟩]
          have est3 : meetB (lastO r) ⟨kd, i, j, k⟩ = true → ¬ (kd = 3 ∧ (lastO r).k + k ≠ 0) → r.take (r.length - 1) = stepC r ⟨kd, i, j, k⟩ := fun hm h3 => by unfold stepC; rw [if_neg hA, if_neg hz, if_neg (by rw [hm]; decide), if_neg h3]
          generalize lastO r = a at *
          obtain ⟨ka, ia, ja, fa⟩ := a
          simp only at hlast est2 est3
          have c3 := padd_i fa k 1 (kb_fits hlast (by omega)) hkk (by omega)
          have c4 := psign_i (fa + k) 1 (kb_fits (B := D + D * t + D) (by have := Int.natAbs_add_le fa k; omega) (by omega)) (by omega)
          have gs : setAll (opsC r ++ T) ((r.length - 1) * 5 + 3) (ivC (fa + k)) = opsC (r.take (r.length - 1) ++ [⟨ka, ia, ja, fa + k⟩]) ++ T := by
            have e := setAll_pre (opsC (r.take (r.length - 1))) (opC ⟨ka, ia, ja, fa⟩ ++ T) (ivC (fa + k)) 3
            rw [glp, Nat.mul_comm] at e
            rw [hsp, e, opsC_app, List.append_assoc]
            rfl
          unfold opC sv at c2 gC
          simp only [List.cons_append, List.nil_append] at gC
          simp only at c2
          have gC3 : (opsC r ++ T).drop ((r.length - 1) * 5 + 3) = .sc (.bool (decide (fa < 0))) :: .im (lv (limbsOf fa.natAbs)) (limbsOf fa.natAbs).length :: T := by rw [← List.drop_drop, gC]; rfl
          have gC4 : (r.length - 1) * 5 + 3 < (opsC r ++ T).length := by omega
          unfold iv sv at c3 c4
          unfold ivC sv at gs
          by_cases hm : meetB ⟨ka, ia, ja, fa⟩ ⟨kd, i, j, k⟩ = false
          · rw [hm] at c2
            rcases hq with ⟨_, q3, q4⟩ | ⟨_, q3⟩
            · (repeat (first | refine DO.nil (by kernel_rfl) ?_ | (with_reducible first | apply oz1 | apply oz2 | apply oz3 | apply oz4 | apply oz5 | apply oz6 | apply oz7 | apply oz8 | apply oz9 | apply ozb | apply ozc | apply oze | apply ozf | apply ozg | apply ozh | apply ozi | apply ozj | apply ozk | refine ozd (by decide) ?_) | ((first | apply SO.call | apply DO.call); (iterate 3 (focus (simp (disch := omega) only [go_sem, ↓reduceIte, zn1, List.append_nil] <;> rfl))); (first | apply SCall.ofX | apply DCall.ofX); (focus (first | assumption)); (focus (simp (disch := omega) only [go_sem] <;> rfl))) | ((with_reducible first | apply SC.condB | apply SC.region | apply SO.run | apply DO.run); (focus (simp (disch := omega) only [go_sem, ↓reduceIte, zn1, zn3, zn4, zn5, reduceCtorEq, if_pos, q1, g1, g2, q3, q4, q5, gC, Bool.not_false, hix, gl, htk, reps1, List.append_nil] <;> rfl)); (first | refine pickT ?_ | refine pickF ?_ | fail_if_success with_reducible refine pickA ?_)) | ((with_reducible refine SC.draw Tab.mixed ?_ ?_); (focus (first | rfl | simp (disch := omega) only [go_sem, ↓reduceIte, zn1, zn2, zn3, zn4, zn5, zn6, reduceCtorEq, zn7, zi1, zi2, if_pos, if_neg, q1, g1, g2, q3, q4, q5, gC, gC2, Bool.not_false, hix, gl, htk, hone, reps1, List.flatten_cons, List.flatten_nil, List.append_nil]))) | (with_reducible apply SC.ops)))
              refine happ _ _ (est1 hm) rfl ?_
              refine Le.ren 0 3 hB (by omega) (by omega) (by omega) ?_ ?_
              · (repeat' (first | exact trivial | refine mapSl_cons (by simp (disch := omega) only [go_sem, ↓reduceIte, zn1] <;> rfl) ?_ ?_ | exact VMap.junk _ | exact VMap.sc _ | exact VMap.clo rfl | exact VMap.sl rfl (by omega) | exact VMap.cap rfl (by omega) | exact VMap.pt rfl (by omega) | exact VMap.nil_sl _ _ _ | exact VMap.int (by first | rfl | omega | (dsimp only; omega))))
              · exact mapHp_cons (by rfl) (bmapTail hclo (by repeat' (first | exact mapL_nil | refine mapL_cons ?_ ?_ | exact VMap.nil_im | exact VMap.clo rfl | exact VMap.sc _))) mapHp_nil
            · (repeat (first | refine DO.nil (by kernel_rfl) ?_ | (with_reducible first | apply oz1 | apply oz2 | apply oz3 | apply oz4 | apply oz5 | apply oz6 | apply oz7 | apply oz8 | apply oz9 | apply ozb | apply ozc | apply oze | apply ozf | apply ozg | apply ozh | apply ozi | apply ozj | apply ozk | refine ozd (by decide) ?_) | ((first | apply SO.call | apply DO.call); (iterate 3 (focus (simp (disch := omega) only [go_sem, ↓reduceIte, zn1, List.append_nil] <;> rfl))); (first | apply SCall.ofX | apply DCall.ofX); (focus (first | assumption)); (focus (simp (disch := omega) only [go_sem] <;> rfl))) | ((with_reducible first | apply SC.condB | apply SC.region | apply SO.run | apply DO.run); (focus (simp (disch := omega) only [go_sem, ↓reduceIte, zn1, zn3, zn4, zn5, reduceCtorEq, if_pos, q1, g1, g2, q3, q5, gC, Bool.not_false, hix, gl, htk, reps1, List.append_nil] <;> rfl)); (first | refine pickT ?_ | refine pickF ?_ | fail_if_success with_reducible refine pickA ?_)) | ((with_reducible refine SC.draw Tab.mixed ?_ ?_); (focus (first | rfl | simp (disch := omega) only [go_sem, ↓reduceIte, zn1, zn2, zn3, zn4, zn5, zn6, reduceCtorEq, zn7, zi1, zi2, if_pos, if_neg, q1, g1, g2, q3, q5, gC, gC2, Bool.not_false, hix, gl, htk, hone, reps1, List.flatten_cons, List.flatten_nil, List.append_nil]))) | (with_reducible apply SC.ops)))
              refine happ _ _ (est1 hm) rfl ?_
              refine Le.ren 0 3 hB (by omega) (by omega) (by omega) ?_ ?_
              · (repeat' (first | exact trivial | refine mapSl_cons (by simp (disch := omega) only [go_sem, ↓reduceIte, zn1] <;> rfl) ?_ ?_ | exact VMap.junk _ | exact VMap.sc _ | exact VMap.clo rfl | exact VMap.sl rfl (by omega) | exact VMap.cap rfl (by omega) | exact VMap.pt rfl (by omega) | exact VMap.nil_sl _ _ _ | exact VMap.int (by first | rfl | omega | (dsimp only; omega))))
              · exact mapHp_cons (by rfl) (bmapTail hclo (by repeat' (first | exact mapL_nil | refine mapL_cons ?_ ?_ | exact VMap.nil_im | exact VMap.clo rfl | exact VMap.sc _))) mapHp_nil
          · have hm : meetB ⟨ka, ia, ja, fa⟩ ⟨kd, i, j, k⟩ = true := by simpa using hm
            rw [hm] at c2
            have fin3 : ∀ s' : SS, ¬ (kd = 3 ∧ fa + k ≠ 0) → Le B s' ⟨[(8, .im (opsC l) l.length), (9, .sc (.int .i64 l.length)), (10, .sc (.int .i64 (t + 1 : Nat))), (3, .sl 0 0 (r.length - 1) 5 none)], [(0, ⟨56, opsC r ++ T, false⟩)], 1, 65⟩ → K s' := fun s' h3 hle => by
              refine fin s' (r.take (r.length - 1)) (opC ⟨ka, ia, ja, fa⟩ ++ T) (est3 hm h3) (by rw [List.all_append, hT]; rfl) ?_
              rw [htl2, ← hsp]
              exact hle
            rcases hq with ⟨h3, q3, q4⟩ | ⟨h3, q3⟩
            · by_cases hs : fa + k = 0
              · have q6 : ((fa + k).sign != 0) = false := by rw [hs]; rfl
                (repeat (first | refine DO.nil (by kernel_rfl) ?_ | (with_reducible first | apply oz1 | apply oz2 | apply oz3 | apply oz4 | apply oz5 | apply oz6 | apply oz7 | apply oz8 | apply oz9 | apply ozb | apply ozc | apply oze | apply ozf | apply ozg | apply ozh | apply ozi | apply ozj | apply ozk | refine ozd (by decide) ?_) | ((first | apply SO.call | apply DO.call); (iterate 3 (focus (simp (disch := omega) only [go_sem, ↓reduceIte, zn1] <;> rfl))); (first | apply SCall.ofX | apply DCall.ofX); (focus (first | assumption)); (focus (simp (disch := omega) only [go_sem] <;> rfl))) | ((with_reducible first | apply SC.condB | apply SC.region | apply SO.run | apply DO.run); (focus (simp (disch := omega) only [go_sem, ↓reduceIte, zn1, zn3, zn4, reduceCtorEq, if_pos, q1, g1, g2, q3, q4, q5, q6, gC, gC3, hix, gl, Bool.not_true] <;> rfl)); (first | refine pickT ?_ | refine pickF ?_ | fail_if_success with_reducible refine pickA ?_)) | ((with_reducible refine SC.draw Tab.mixed ?_ ?_); (focus (first | rfl | simp (disch := omega) only [go_sem, ↓reduceIte, zn1, zn2, zn3, zn4, zn5, zn6, reduceCtorEq, zn7, zi1, zi2, if_pos, if_neg, q1, g1, g2, q3, q4, q5, q6, gC, gC2, gC3, gC4, hix, gl, Bool.not_true]))) | (with_reducible apply SC.ops)))
                refine fin3 _ (fun h => h.2 hs) ?_
                refine Le.ren 5 1 hB (by omega) (by omega) (by omega) ?_ ?_
                · (repeat' (first | exact trivial | refine mapSl_cons (by simp (disch := omega) only [go_sem, ↓reduceIte, zn1] <;> rfl) ?_ ?_ | exact VMap.junk _ | exact VMap.sc _ | exact VMap.clo rfl | exact VMap.sl rfl (by omega) | exact VMap.cap rfl (by omega) | exact VMap.pt rfl (by omega) | exact VMap.nil_sl _ _ _ | exact VMap.int (by first | rfl | omega | (dsimp only; omega))))
                · exact mapHp_cons (by rfl) (BMap.clo hCc) mapHp_nil
              · have q6 : ((fa + k).sign != 0) = true := by
                  rw [bne_iff_ne]
                  exact fun e => hs (Int.sign_eq_zero_iff_zero.1 e)
                (repeat (first | refine DO.nil (by kernel_rfl) ?_ | (with_reducible first | apply oz1 | apply oz2 | apply oz3 | apply oz4 | apply oz5 | apply oz6 | apply oz7 | apply oz8 | apply oz9 | apply ozb | apply ozc | apply oze | apply ozf | apply ozg | apply ozh | apply ozi | apply ozj | apply ozk | refine ozd (by decide) ?_) | ((first | apply SO.call | apply DO.call); (iterate 3 (focus (simp (disch := omega) only [go_sem, ↓reduceIte, zn1] <;> rfl))); (first | apply SCall.ofX | apply DCall.ofX); (focus (first | assumption)); (focus (simp (disch := omega) only [go_sem] <;> rfl))) | ((with_reducible first | apply SC.condB | apply SC.region | apply SO.run | apply DO.run); (focus (simp (disch := omega) only [go_sem, ↓reduceIte, zn1, zn3, zn4, reduceCtorEq, if_pos, q1, g1, g2, q3, q4, q5, q6, gC, gC3, hix, gl, gs, Bool.not_true] <;> rfl)); (first | refine pickT ?_ | refine pickF ?_ | fail_if_success with_reducible refine pickA ?_)) | ((with_reducible refine SC.draw Tab.mixed ?_ ?_); (focus (first | rfl | simp (disch := omega) only [go_sem, ↓reduceIte, zn1, zn2, zn3, zn4, zn5, zn6, reduceCtorEq, zn7, zi1, zi2, if_pos, if_neg, q1, g1, g2, q3, q4, q5, q6, gC, gC2, gC3, gC4, hix, gl, gs, Bool.not_true]))) | (with_reducible apply SC.ops)))
                refine fin _ _ T (est2 hm h3 hs) hT ?_
                rw [List.length_append, htl2, show [(⟨ka, ia, ja, fa + k⟩ : OpL)].length = 1 from rfl, show r.length - 1 + 1 = r.length by omega]
                have hCc : (opsC (r.take (r.length - 1) ++ [⟨ka, ia, ja, fa + k⟩]) ++ T).all clo = true := by rw [List.all_append, opsC_clo, hT]; rfl
                refine Le.ren 5 1 hB (by omega) (by omega) (by omega) ?_ ?_
                · (repeat' (first | exact trivial | refine mapSl_cons (by simp (disch := omega) only [go_sem, ↓reduceIte, zn1] <;> rfl) ?_ ?_ | exact VMap.junk _ | exact VMap.sc _ | exact VMap.clo rfl | exact VMap.sl rfl (by omega) | exact VMap.cap rfl (by omega) | exact VMap.pt rfl (by omega) | exact VMap.nil_sl _ _ _ | exact VMap.int (by first | rfl | omega | (dsimp only; omega))))
                · exact mapHp_cons (by rfl) (BMap.clo hCc) mapHp_nil
            · (repeat (first | refine DO.nil (by kernel_rfl) ?_ | (with_reducible first | apply oz1 | apply oz2 | apply oz3 | apply oz4 | apply oz5 | apply oz6 | apply oz7 | apply oz8 | apply oz9 | apply ozb | apply ozc | apply oze | apply ozf | apply ozg | apply ozh | apply ozi | apply ozj | apply ozk | refine ozd (by decide) ?_) | ((first | apply SO.call | apply DO.call); (iterate 3 (focus (simp (disch := omega) only [go_sem, ↓reduceIte, zn1] <;> rfl))); (first | apply SCall.ofX | apply DCall.ofX); (focus (first | assumption)); (focus (simp (disch := omega) only [go_sem] <;> rfl))) | ((with_reducible first | apply SC.condB | apply SC.region | apply SO.run | apply DO.run); (focus (simp (disch := omega) only [go_sem, ↓reduceIte, zn1, zn3, zn4, reduceCtorEq, if_pos, q1, g1, g2, q3, q5, gC, hix, gl, Bool.not_true] <;> rfl)); (first | refine pickT ?_ | refine pickF ?_ | fail_if_success with_reducible refine pickA ?_)) | ((with_reducible refine SC.draw Tab.mixed ?_ ?_); (focus (first | rfl | simp (disch := omega) only [go_sem, ↓reduceIte, zn1, zn2, zn3, zn4, zn5, zn6, reduceCtorEq, zn7, zi1, zi2, if_pos, if_neg, q1, g1, g2, q3, q5, gC, gC2, hix, gl, Bool.not_true]))) | (with_reducible apply SC.ops)))
              refine fin3 _ (fun h => h3 h.1) ?_
              refine Le.ren 5 1 hB (by omega) (by omega) (by omega) ?_ ?_
              · (repeat' (first | exact trivial | refine mapSl_cons (by simp (disch := omega) only [go_sem, ↓reduceIte, zn1] <;> rfl) ?_ ?_ | exact VMap.junk _ | exact VMap.sc _ | exact VMap.clo rfl | exact VMap.sl rfl (by omega) | exact VMap.cap rfl (by omega) | exact VMap.pt rfl (by omega) | exact VMap.nil_sl _ _ _ | exact VMap.int (by first | rfl | omega | (dsimp only; omega))))
              · exact mapHp_cons (by rfl) (BMap.clo hCc) mapHp_nil
    · have q1 : decide ((t : Int) < (l.length : Int)) = false := decide_eq_false (by omega)
      have htl : t = l.length := by omega
      have hrr : r = compL l := by rw [hr, htl, List.take_of_length_le (Nat.le_refl _)]
      rw [← hrr]
      (repeat (first | refine DO.nil (by kernel_rfl) ?_ | (with_reducible first | apply oz1 | apply oz2 | apply oz3 | apply oz4 | apply oz5 | apply oz6 | apply oz7 | apply oz8 | apply oz9 | apply ozb | apply ozc | apply oze | apply ozf | apply ozg | apply ozh | apply ozi | apply ozj | apply ozk | refine ozd (by decide) ?_) | ((first | apply SO.call | apply DO.call); (iterate 3 (focus (simp (disch := omega) only [go_sem, ↓reduceIte, zn1, zn2, zn3, zn4, zn5, zn6, reduceCtorEq, zn7, zi1, zi2, if_pos, if_neg, q1] <;> rfl))); (first | apply SCall.ofX | apply DCall.ofX); (focus (first | assumption)); (focus (simp (disch := omega) only [go_sem, ↓reduceIte, zn1, zn2, zn3, zn4, zn5, zn6, reduceCtorEq, zn7, zi1, zi2, if_pos, if_neg, q1] <;> rfl))) | ((with_reducible first | apply SC.condB | apply SC.region | apply SO.run | apply DO.run); (focus (simp (disch := omega) only [go_sem, ↓reduceIte, zn1, zn2, q1] <;> rfl)); (first | refine pickT ?_ | refine pickF ?_ | fail_if_success with_reducible refine pickA ?_)) | ((with_reducible refine SC.draw Tab.mixed ?_ ?_); (focus (first | rfl | simp (disch := omega) only [go_sem, ↓reduceIte, zn1, zn2, zn3, zn4, zn5, zn6, reduceCtorEq, zn7, zi1, zi2, if_pos, if_neg, q1]))) | (with_reducible apply SC.ops)))
      exact retQ_ret Try.results18 (by simp (disch := omega) only [go_sem, ↓reduceIte] <;> rfl) (by simp (disch := omega) only [go_sem, ↓reduceIte, if_pos, hclo, htk, gl] <;> rfl) rfl
end Go.Proofs.Ytfhcmibgpddggaa
namespace Go.Proofs.Ytfhcmibgpddggaa
open Go.RowKit
set_option maxHeartbeats 4000000 in
theorem lsame_s {l : List OpL} (hf : ∀ o ∈ l, Fits 1 o.k) (hlen : l.length ≤ 1000000) : Spec Try.prog 22 [.im (opsC l) l.length, .im (opsC l) l.length] (.sc (.bool true)) := by
  refine Spec.run Try.func22 rfl Try.ntmps22 (by simp) (by simp (disch := omega) only [go_sem, zn4]; rfl) fun B hB => ?_
  (repeat (first | refine DO.nil (by kernel_rfl) ?_ | (with_reducible first | apply oz1 | apply oz2 | apply oz3 | apply oz4 | apply oz5 | apply oz6 | apply oz7 | apply oz8 | apply oz9 | apply ozb | apply ozc | apply oze | apply ozf | apply ozg | apply ozh | apply ozi | apply ozj | apply ozk | refine ozd (by decide) ?_) | ((first | apply SO.call | apply DO.call); (iterate 3 (focus (simp (disch := omega) only [go_sem, ↓reduceIte, zn1, zn2, zn3, zn4, zn5, zn6, reduceCtorEq, zn7, zi1, zi2, if_pos, if_neg, bne_self_eq_false] <;> rfl))); (first | apply SCall.ofX | apply DCall.ofX); (focus (first | assumption)); (focus (simp (disch := omega) only [go_sem, ↓reduceIte, zn1, zn2, zn3, zn4, zn5, zn6, reduceCtorEq, zn7, zi1, zi2, if_pos, if_neg, bne_self_eq_false] <;> rfl))) | ((with_reducible first | apply SC.condB | apply SC.region | apply SO.run | apply DO.run); (focus (simp (disch := omega) only [go_sem, ↓reduceIte, zn1, reduceCtorEq, bne_self_eq_false] <;> rfl)); (first | refine pickT ?_ | refine pickF ?_ | fail_if_success with_reducible refine pickA ?_)) | ((with_reducible refine SC.draw Tab.mixed ?_ ?_); (focus (first | rfl | simp (disch := omega) only [go_sem, ↓reduceIte, zn1, zn2, zn3, zn4, zn5, zn6, reduceCtorEq, zn7, zi1, zi2, if_pos, if_neg, bne_self_eq_false]))) | (with_reducible apply SC.ops)))
  refine SC.loop (fun k : Nat => ⟨[(0, .im (opsC l) l.length), (1, .im (opsC l) l.length), (5, .sc (.int .i64 k))], [], 0, 68⟩)
    (fun k => k ≤ l.length) (fun k => l.length - k) 0 ?_ ?_ ?_
  · (refine Le.slots ?_ ?_ ?_ <;> (repeat' (first | (exact fun _ _ h => h) | exact Nat.le_refl _ | exact leSl_nil | refine leSl_cons (by simp (disch := omega) only [go_sem, ↓reduceIte, zn1, reduceCtorEq] <;> rfl) ?_ ?_ | exact VLe.junk _ | exact VLe.refl rfl | exact VLe.nil_sl _ _ _ | exact VLe.int (by first | rfl | omega | (dsimp only; omega)) | exact VLe.bool rfl | exact VLe.sl rfl (by first | rfl | omega) | exact VLe.cap rfl (by first | rfl | omega) | exact VLe.im rfl rfl | omega | (refine fun id k h => ?_; simp only [hget] at h ⊢; (repeat' (split at h)) <;> first | (cases h; done) | (simp (disch := omega) only [if_pos, if_neg]; exact h)))))
  · exact Nat.zero_le _
  · intro k hk K hK
    by_cases hc : k < l.length
    · have q1 : decide ((k : Int) < (l.length : Int)) = true := decide_eq_true (by omega)
      have g1 := opsC_drop hc
      have g2 : k * 5 < (opsC l).length := by rw [opsC_len]; omega
      have hfo := hf _ (getD_mem (d := (⟨0, 0, 0, 0⟩ : OpL)) hc)
      have lx := fits_len hfo
      have c1 := same_i (l.getD k ⟨0, 0, 0, 0⟩).k (l.getD k ⟨0, 0, 0, 0⟩).k (by unfold Short; omega) (by unfold Short; omega)
      rw [decide_eq_true rfl] at c1
      generalize l.getD k ⟨0, 0, 0, 0⟩ = op at *
      generalize (opsC l).drop ((k + 1) * 5) = D at *
      obtain ⟨kd, i, j, f⟩ := op
      unfold opC sv at g1
      simp only [List.cons_append, List.nil_append] at g1
      unfold iv sv at c1
      simp only at c1
      have ha : ∀ m, (opsC l).drop (k * 5 + m) = (V.sc (.int .i64 kd) :: V.sc (.int .i64 i) :: V.sc (.int .i64 j) :: V.sc (.bool (decide (f < 0))) :: V.im (lv (limbsOf f.natAbs)) (limbsOf f.natAbs).length :: D).drop m := fun m => by rw [← List.drop_drop, g1]
      have a1 := ha 1
      have a2 := ha 2
      have a3 := ha 3
      simp only [List.drop_succ_cons, List.drop_zero] at a1 a2 a3
      have glL := opsC_len l
      have b1 : k * 5 + 1 < (opsC l).length := by omega
      have b2 : k * 5 + 2 < (opsC l).length := by omega
      have b3 : k * 5 + 3 < (opsC l).length := by omega
      clear ha
      (repeat (first | refine DO.nil (by kernel_rfl) ?_ | (with_reducible first | apply oz1 | apply oz2 | apply oz3 | apply oz4 | apply oz5 | apply oz6 | apply oz7 | apply oz8 | apply oz9 | apply ozb | apply ozc | apply oze | apply ozf | apply ozg | apply ozh | apply ozi | apply ozj | apply ozk | refine ozd (by decide) ?_) | ((first | apply SO.call | apply DO.call); (iterate 3 (focus (simp (disch := omega) only [go_sem, ↓reduceIte, zn1, beq_self_eq_true] <;> rfl))); (first | apply SCall.ofX | apply DCall.ofX); (focus (first | assumption)); (focus (simp (disch := omega) only [go_sem] <;> rfl))) | ((with_reducible first | apply SC.condB | apply SC.region | apply SO.run | apply DO.run); (focus (simp (disch := omega) only [go_sem, ↓reduceIte, zn1, zn2, zn3, reduceCtorEq, if_pos, q1, g1, g2, bne_self_eq_false, beq_self_eq_true, Bool.not_true] <;> rfl)); (first | refine pickT ?_ | refine pickF ?_ | fail_if_success with_reducible refine pickA ?_)) | ((with_reducible refine SC.draw Tab.mixed ?_ ?_); (focus (first | rfl | simp (disch := omega) only [go_sem, ↓reduceIte, zn1, zn2, zn3, zn4, zn5, zn6, reduceCtorEq, zn7, zi1, zi2, if_pos, if_neg, q1, g1, g2, a1, a2, a3, b1, b2, b3, bne_self_eq_false, beq_self_eq_true, Bool.not_true]))) | (with_reducible apply SC.ops)))
      refine hK _ (k + 1) ?_ (by omega) (by omega)
      (refine Le.slots ?_ ?_ ?_ <;> (repeat' (first | (exact fun _ _ h => h) | exact Nat.le_refl _ | exact leSl_nil | refine leSl_cons (by simp (disch := omega) only [go_sem, ↓reduceIte, zn1, reduceCtorEq] <;> rfl) ?_ ?_ | exact VLe.junk _ | exact VLe.refl rfl | exact VLe.nil_sl _ _ _ | exact VLe.int (by first | rfl | omega | (dsimp only; omega)) | exact VLe.bool rfl | exact VLe.sl rfl (by first | rfl | omega) | exact VLe.cap rfl (by first | rfl | omega) | exact VLe.im rfl rfl | omega | (refine fun id k h => ?_; simp only [hget] at h ⊢; (repeat' (split at h)) <;> first | (cases h; done) | (simp (disch := omega) only [if_pos, if_neg]; exact h)))))
    · have q1 : decide ((k : Int) < (l.length : Int)) = false := decide_eq_false (by omega)
      (repeat (first | refine DO.nil (by kernel_rfl) ?_ | (with_reducible first | apply oz1 | apply oz2 | apply oz3 | apply oz4 | apply oz5 | apply oz6 | apply oz7 | apply oz8 | apply oz9 | apply ozb | apply ozc | apply oze | apply ozf | apply ozg | apply ozh | apply ozi | apply ozj | apply ozk | refine ozd (by decide) ?_) | ((first | apply SO.call | apply DO.call); (iterate 3 (focus (simp (disch := omega) only [go_sem, ↓reduceIte, zn1, zn2, zn3, zn4, zn5, zn6, reduceCtorEq, zn7, zi1, zi2, if_pos, if_neg, q1] <;> rfl))); (first | apply SCall.ofX | apply DCall.ofX); (focus (first | assumption)); (focus (simp (disch := omega) only [go_sem, ↓reduceIte, zn1, zn2, zn3, zn4, zn5, zn6, reduceCtorEq, zn7, zi1, zi2, if_pos, if_neg, q1] <;> rfl))) | ((with_reducible first | apply SC.condB | apply SC.region | apply SO.run | apply DO.run); (focus (simp (disch := omega) only [go_sem, ↓reduceIte, zn1, reduceCtorEq, q1] <;> rfl)); (first | refine pickT ?_ | refine pickF ?_ | fail_if_success with_reducible refine pickA ?_)) | ((with_reducible refine SC.draw Tab.mixed ?_ ?_); (focus (first | rfl | simp (disch := omega) only [go_sem, ↓reduceIte, zn1, zn2, zn3, zn4, zn5, zn6, reduceCtorEq, zn7, zi1, zi2, if_pos, if_neg, q1]))) | (with_reducible apply SC.ops)))
      exact retQ_ret Try.results22 (by simp (disch := omega) only [go_sem, ↓reduceIte] <;> rfl) (by simp (disch := omega) only [go_sem] <;> rfl) rfl
end Go.Proofs.Ytfhcmibgpddggaa
namespace Go.Proofs.Ytfhcmibgpddggaa
open Go.RowKit
def eqv (p q : OpL) : Prop := p.kd = q.kd ∧ p.k = q.k ∧ ((p.i = q.i ∧ p.j = q.j) ∨ (p.kd = 1 ∧ p.i = q.j ∧ p.j = q.i))
theorem eqv.rfl' (p : OpL) : eqv p p := ⟨rfl, rfl, .inl ⟨rfl, rfl⟩⟩
theorem eqv.trans {p q s : OpL} (h : eqv p q) (k : eqv q s) : eqv p s := by
  obtain ⟨h1, h2, h3⟩ := h
  obtain ⟨k1, k2, k3⟩ := k
  refine ⟨h1.trans k1, h2.trans k2, ?_⟩
  rcases h3 with ⟨a, b⟩ | ⟨c, a, b⟩ <;> rcases k3 with ⟨d, e⟩ | ⟨f, d, e⟩
  · exact .inl ⟨a.trans d, b.trans e⟩
  · exact .inr ⟨by omega, a.trans d, b.trans e⟩
  · exact .inr ⟨c, a.trans e, b.trans d⟩
  · exact .inl ⟨a.trans e, b.trans d⟩
theorem meet_l {a a' o : OpL} (h : eqv a a') : meetB a o = meetB a' o := by
  obtain ⟨h1, _, h3⟩ := h
  unfold meetB
  rw [h1]
  by_cases h0 : a'.kd = o.kd
  · rw [if_pos h0, if_pos h0]
    rcases h3 with ⟨e1, e2⟩ | ⟨c, e1, e2⟩
    · rw [e1, e2]
    · rw [if_pos (by omega), if_pos (by omega), e1, e2]
      rw [Bool.or_comm]
      congr 1 <;> rw [Bool.and_comm]
  · rw [if_neg h0, if_neg h0]
theorem meet_r {a o o' : OpL} (h : eqv o o') : meetB a o = meetB a o' := by
  obtain ⟨h1, _, h3⟩ := h
  unfold meetB
  rw [h1]
  by_cases h0 : a.kd = o'.kd
  · rw [if_pos h0, if_pos h0]
    rcases h3 with ⟨e1, e2⟩ | ⟨c, e1, e2⟩
    · rw [e1, e2]
    · rw [if_pos (by omega), if_pos (by omega), e1, e2, Bool.or_comm]
  · rw [if_neg h0, if_neg h0]
theorem meet_same {a o : OpL} (h : meetB a o = true) (h1 : o.kd = 3) : a.kd = 3 ∧ a.i = o.i ∧ a.j = o.j := by
  unfold meetB at h
  split at h
  · rename_i e
    rw [if_neg (by omega), if_neg (by omega), Bool.and_eq_true, decide_eq_true_eq, decide_eq_true_eq] at h
    exact ⟨by omega, h⟩
  · cases h
theorem meet_self {a o : OpL} (h0 : a.kd = o.kd) (h1 : a.i = o.i) (h2 : a.j = o.j) : meetB a o = true := by
  unfold meetB
  rw [if_pos h0, h1, h2]
  split
  · simp
  · split <;> simp
def eqvL : List OpL → List OpL → Prop
  | [], [] => True
  | p :: r, q :: s => eqv p q ∧ eqvL r s
  | _, _ => False
theorem eqvL.rfl' : ∀ r : List OpL, eqvL r r
  | [] => trivial
  | p :: r => ⟨eqv.rfl' p, eqvL.rfl' r⟩
theorem eqvL.trans : ∀ {r s t : List OpL}, eqvL r s → eqvL s t → eqvL r t
  | [], [], [], _, _ => trivial
  | p :: r, q :: s, u :: t, h, k => ⟨h.1.trans k.1, eqvL.trans h.2 k.2⟩
theorem eqvL.len : ∀ {r s : List OpL}, eqvL r s → r.length = s.length
  | [], [], _ => rfl
  | p :: r, q :: s, h => by simp [eqvL.len h.2]
theorem eqvL.app : ∀ {r s t u : List OpL}, eqvL r s → eqvL t u → eqvL (r ++ t) (s ++ u)
  | [], [], _, _, _, k => k
  | p :: r, q :: s, _, _, h, k => ⟨h.1, eqvL.app h.2 k⟩
theorem eqvL.take : ∀ {r s : List OpL} (n : Nat), eqvL r s → eqvL (r.take n) (s.take n)
  | [], [], n, _ => by rw [List.take_nil]; trivial
  | p :: r, q :: s, 0, _ => trivial
  | p :: r, q :: s, n + 1, h => ⟨h.1, eqvL.take n h.2⟩
theorem eqvL.get : ∀ {r s : List OpL} (n : Nat), n < r.length → eqvL r s → eqv (r.getD n ⟨0, 0, 0, 0⟩) (s.getD n ⟨0, 0, 0, 0⟩)
  | p :: r, q :: s, 0, _, h => h.1
  | p :: r, q :: s, n + 1, hn, h => eqvL.get n (by simpa using hn) h.2
theorem eqvL.last {r s : List OpL} (h : eqvL r s) (hr : r.length ≠ 0) : eqv (lastO r) (lastO s) := by
  unfold lastO
  rw [← h.len]
  exact h.get _ (by omega)
theorem stepC_eqv {r s : List OpL} {o : OpL} (h : eqvL r s) : eqvL (stepC r o) (stepC s o) := by
  have hl := h.len
  unfold stepC
  by_cases h1 : o.kd = 3 ∧ o.k = 0
  · rw [if_pos h1, if_pos h1]; exact h
  rw [if_neg h1, if_neg h1]
  by_cases h2 : r.length = 0
  · rw [if_pos h2, if_pos (show s.length = 0 by omega)]; exact h.app (eqvL.rfl' _)
  rw [if_neg h2, if_neg (show ¬ s.length = 0 by omega)]
  have hla := h.last h2
  rw [← meet_l hla]
  by_cases h3 : meetB (lastO r) o = false
  · rw [if_pos h3, if_pos h3]; exact h.app (eqvL.rfl' _)
  rw [if_neg h3, if_neg h3, ← hla.2.1, ← hl]
  by_cases h4 : o.kd = 3 ∧ (lastO r).k + o.k ≠ 0
  · rw [if_pos h4, if_pos h4]
    exact (h.take _).app ⟨⟨hla.1, rfl, hla.2.2⟩, trivial⟩
  · rw [if_neg h4, if_neg h4]; exact h.take _
structure Red (r : List OpL) : Prop where
  nz : ∀ p ∈ r, ¬ (p.kd = 3 ∧ p.k = 0)
  nm : ∀ i, i + 1 < r.length → meetB (r.getD i ⟨0, 0, 0, 0⟩) (r.getD (i + 1) ⟨0, 0, 0, 0⟩) = false
theorem Red.take {r : List OpL} (h : Red r) (n : Nat) : Red (r.take n) := by
  refine ⟨fun p hp => h.nz p (List.mem_of_mem_take hp), fun i hi => ?_⟩
  rw [List.length_take] at hi
  rw [List.getD_eq_getElem?_getD, List.getD_eq_getElem?_getD, List.getElem?_take_of_lt (by omega), List.getElem?_take_of_lt (by omega), ← List.getD_eq_getElem?_getD, ← List.getD_eq_getElem?_getD]
  exact h.nm i (by omega)
theorem getD_L {r : List OpL} {o : OpL} {i : Nat} (h : i < r.length) : (r ++ [o]).getD i ⟨0, 0, 0, 0⟩ = r.getD i ⟨0, 0, 0, 0⟩ := by
  rw [List.getD_eq_getElem?_getD, List.getElem?_append_left h, ← List.getD_eq_getElem?_getD]
theorem getD_R {r : List OpL} {o : OpL} : (r ++ [o]).getD r.length ⟨0, 0, 0, 0⟩ = o := by
  rw [List.getD_eq_getElem?_getD, List.getElem?_append_right (Nat.le_refl _), Nat.sub_self]; rfl
theorem Red.snoc {r : List OpL} (h : Red r) {o : OpL} (ho : ¬ (o.kd = 3 ∧ o.k = 0)) (hm : r.length ≠ 0 → meetB (lastO r) o = false) : Red (r ++ [o]) := by
  refine ⟨fun p hp => ?_, fun i hi => ?_⟩
  · rcases List.mem_append.1 hp with g | g
    · exact h.nz p g
    · rw [List.mem_singleton.1 g]; exact ho
  · rw [List.length_append, List.length_singleton] at hi
    rw [getD_L (by omega)]
    by_cases e : i + 1 = r.length
    · rw [e, getD_R]
      have := hm (by omega)
      unfold lastO at this
      rwa [show r.length - 1 = i by omega] at this
    · rw [getD_L (by omega)]
      exact h.nm i (by omega)
theorem last_take {r : List OpL} (h : Red r) (h2 : r.length - 1 ≠ 0) (h1 : (r.take (r.length - 1)).length = r.length - 1) : meetB (lastO (r.take (r.length - 1))) (lastO r) = false := by
  have := h.nm (r.length - 1 - 1) (by omega)
  unfold lastO
  rw [h1, List.getD_eq_getElem?_getD, List.getElem?_take_of_lt (by omega), ← List.getD_eq_getElem?_getD]
  rwa [show r.length - 1 - 1 + 1 = r.length - 1 by omega] at this
theorem Red.step {r : List OpL} (h : Red r) (o : OpL) : Red (stepC r o) := by
  unfold stepC
  by_cases h1 : o.kd = 3 ∧ o.k = 0
  · rw [if_pos h1]; exact h
  rw [if_neg h1]
  by_cases h2 : r.length = 0
  · rw [if_pos h2]; exact h.snoc h1 (fun e => absurd h2 e)
  rw [if_neg h2]
  by_cases h3 : meetB (lastO r) o = false
  · rw [if_pos h3]; exact h.snoc h1 (fun _ => h3)
  rw [if_neg h3]
  have htl : (r.take (r.length - 1)).length = r.length - 1 := by rw [List.length_take]; omega
  by_cases h4 : o.kd = 3 ∧ (lastO r).k + o.k ≠ 0
  · rw [if_pos h4]
    have hm := meet_same (by simpa using h3) h4.1
    refine (h.take _).snoc (fun e => h4.2 e.2) (fun e => ?_)
    rw [htl] at e
    have := last_take h e htl
    have hq : ∀ x : OpL, meetB x ⟨(lastO r).kd, (lastO r).i, (lastO r).j, (lastO r).k + o.k⟩ = meetB x (lastO r) := fun x => rfl
    rw [hq]; exact this
  · rw [if_neg h4]; exact h.take _
theorem red_comp : ∀ l : List OpL, Red (compL l) := by
  have key : ∀ (l r : List OpL), Red r → Red (l.foldl stepC r) := by
    intro l
    induction l with
    | nil => intro r h; exact h
    | cons o l ih => intro r h; exact ih _ (h.step o)
  exact fun l => key l [] ⟨(fun p hp => by cases hp), (fun i hi => by simp at hi)⟩
theorem comp_red {r : List OpL} (h : Red r) : compL r = r := by
  have key : ∀ n, n ≤ r.length → compL (r.take n) = r.take n := by
    intro n
    induction n with
    | zero => intro _; rfl
    | succ n ih =>
      intro hn
      have hs := take_snoc (d := (⟨0, 0, 0, 0⟩ : OpL)) (l := r) (i := n) (by omega)
      have htl : (r.take n).length = n := by rw [List.length_take]; omega
      rw [hs, comp_snoc, ih (by omega)]
      unfold stepC
      rw [if_neg (h.nz _ (getD_mem (by omega)))]
      by_cases h0 : n = 0
      · rw [if_pos (by omega)]
      · have hm := h.nm (n - 1) (by omega)
        rw [show n - 1 + 1 = n by omega] at hm
        rw [if_neg (by omega)]
        unfold lastO
        rw [htl, List.getD_eq_getElem?_getD, List.getElem?_take_of_lt (by omega), ← List.getD_eq_getElem?_getD, if_pos hm]
  have := key r.length (Nat.le_refl _)
  rwa [List.take_of_length_le (Nat.le_refl _)] at this
theorem comp_comp (l : List OpL) : compL (compL l) = compL l := comp_red (red_comp l)
def NfO (p : OpL) : Prop := (p.kd = 1 ∧ p.k = 0) ∨ (p.kd = 2 ∧ p.j = 0 ∧ p.k = 0) ∨ p.kd = 3
theorem nf_ok {n : Nat} {p : OpL} (h : OkOp n p) : NfO p := by
  rcases h.c with ⟨a, _, _, d⟩ | ⟨a, b, d⟩ | ⟨a, _⟩
  · exact .inl ⟨a, d⟩
  · exact .inr (.inl ⟨a, b, d⟩)
  · exact .inr (.inr a)
theorem nf_step {r : List OpL} {o : OpL} (h : ∀ p ∈ r, NfO p) (ho : NfO o) : ∀ p ∈ stepC r o, NfO p := by
  have h2 : ∀ p ∈ r ++ [o], NfO p := fun p hp => by
    rcases List.mem_append.1 hp with g | g
    · exact h p g
    · rw [List.mem_singleton.1 g]; exact ho
  unfold stepC
  split
  · exact h
  · split
    · exact h2
    · rename_i hr
      split
      · exact h2
      · rename_i hm
        split
        · rename_i h4
          intro p hp
          rcases List.mem_append.1 hp with g | g
          · exact h p (List.mem_of_mem_take g)
          · rw [List.mem_singleton.1 g]
            have hs := meet_same (a := lastO r) (o := o) (by simpa using hm) h4.1
            exact .inr (.inr hs.1)
        · exact fun p hp => h p (List.mem_of_mem_take hp)
theorem step_back {r : List OpL} {o : OpL} (hr : Red r) (hn : ∀ p ∈ r, NfO p) (ho : NfO o) : eqvL (stepC (stepC r o) (invO o)) r := by
  by_cases h1 : o.kd = 3 ∧ o.k = 0
  · have e : stepC r o = r := by unfold stepC; rw [if_pos h1]
    have e2 : stepC r (invO o) = r := by unfold stepC; rw [if_pos ⟨h1.1, by show -o.k = 0; omega⟩]
    rw [e, e2]; exact eqvL.rfl' r
  have h1' : ¬ ((invO o).kd = 3 ∧ (invO o).k = 0) := fun e => h1 ⟨e.1, by have : -o.k = 0 := e.2; omega⟩
  have push : stepC (r ++ [o]) (invO o) = r := by
    have hl : lastO (r ++ [o]) = o := by
      unfold lastO
      rw [List.length_append, List.length_singleton, Nat.add_sub_cancel, getD_R]
    unfold stepC
    rw [if_neg h1', if_neg (by simp), hl, meet_self (a := o) (o := invO o) rfl rfl rfl, if_neg (by decide), if_neg (fun e => e.2 (by show o.k + -o.k = 0; omega))]
    rw [List.length_append, List.length_singleton, Nat.add_sub_cancel, List.take_append_of_le_length (Nat.le_refl _), List.take_of_length_le (Nat.le_refl _)]
  by_cases h2 : r.length = 0
  · have e : stepC r o = r ++ [o] := by unfold stepC; rw [if_neg h1, if_pos h2]
    rw [e, push]; exact eqvL.rfl' r
  by_cases h3 : meetB (lastO r) o = false
  · have e : stepC r o = r ++ [o] := by unfold stepC; rw [if_neg h1, if_neg h2, if_pos h3]
    rw [e, push]; exact eqvL.rfl' r
  have hsl := snoc_last h2
  have htl : (r.take (r.length - 1)).length = r.length - 1 := by rw [List.length_take]; omega
  have hlm : lastO r ∈ r := getD_mem (d := (⟨0, 0, 0, 0⟩ : OpL)) (by omega)
  have hm : meetB (lastO r) o = true := by simpa using h3
  by_cases h4 : o.kd = 3 ∧ (lastO r).k + o.k ≠ 0
  · have hs := meet_same hm h4.1
    have e : stepC r o = r.take (r.length - 1) ++ [⟨(lastO r).kd, (lastO r).i, (lastO r).j, (lastO r).k + o.k⟩] := by unfold stepC; rw [if_neg h1, if_neg h2, if_neg h3, if_pos h4]
    rw [e]
    generalize hq : (⟨(lastO r).kd, (lastO r).i, (lastO r).j, (lastO r).k + o.k⟩ : OpL) = q
    have hl : lastO (r.take (r.length - 1) ++ [q]) = q := by
      unfold lastO
      rw [List.length_append, List.length_singleton, Nat.add_sub_cancel, getD_R]
    have hqk : q.k + (invO o).k = (lastO r).k := by rw [← hq]; show (lastO r).k + o.k + -o.k = _; omega
    unfold stepC
    rw [if_neg h1', if_neg (by simp), hl, meet_self (a := q) (o := invO o) (by rw [← hq]; show (lastO r).kd = o.kd; omega) (by rw [← hq]; exact hs.2.1) (by rw [← hq]; exact hs.2.2), if_neg (by decide), hqk,
      if_pos ⟨h4.1, fun e => hr.nz _ hlm ⟨hs.1, e⟩⟩, List.length_append, List.length_singleton, Nat.add_sub_cancel, List.take_append_of_le_length (Nat.le_refl _), List.take_of_length_le (Nat.le_refl _)]
    have e5 : (⟨q.kd, q.i, q.j, (lastO r).k⟩ : OpL) = lastO r := by rw [← hq]
    rw [e5, ← hsl]
    exact eqvL.rfl' r
  · have e : stepC r o = r.take (r.length - 1) := by unfold stepC; rw [if_neg h1, if_neg h2, if_neg h3, if_neg h4]
    rw [e]
    have hev : eqv (invO o) (lastO r) := by
      have hkd : (lastO r).kd = o.kd := by
        unfold meetB at hm
        split at hm
        · assumption
        · cases hm
      rcases ho with ⟨a, b⟩ | ⟨a, b, c⟩ | a
      · have hk : (lastO r).k = 0 := by rcases hn _ hlm with ⟨_, x⟩ | ⟨x, _⟩ | x <;> omega
        unfold meetB at hm
        rw [if_pos hkd, if_pos a, Bool.or_eq_true, Bool.and_eq_true, Bool.and_eq_true, decide_eq_true_eq, decide_eq_true_eq, decide_eq_true_eq, decide_eq_true_eq] at hm
        refine ⟨hkd.symm, by show -o.k = _; omega, ?_⟩
        rcases hm with ⟨x, y⟩ | ⟨x, y⟩
        · exact .inl ⟨x.symm, y.symm⟩
        · exact .inr ⟨a, y.symm, x.symm⟩
      · obtain ⟨hj, hk⟩ : (lastO r).j = 0 ∧ (lastO r).k = 0 := by rcases hn _ hlm with ⟨x, _⟩ | ⟨_, x⟩ | x <;> omega
        unfold meetB at hm
        rw [if_pos hkd, if_neg (by omega), if_pos a, decide_eq_true_eq] at hm
        exact ⟨hkd.symm, by show -o.k = _; omega, .inl ⟨hm.symm, by show o.j = _; omega⟩⟩
      · have hs := meet_same hm a
        refine ⟨hkd.symm, ?_, .inl ⟨hs.2.1.symm, hs.2.2.symm⟩⟩
        show -o.k = _
        have : ¬ (lastO r).k + o.k ≠ 0 := fun x => h4 ⟨a, x⟩
        omega
    have hpush : stepC (r.take (r.length - 1)) (invO o) = r.take (r.length - 1) ++ [invO o] := by
      unfold stepC
      rw [if_neg h1']
      by_cases h0 : r.length - 1 = 0
      · rw [if_pos (by omega)]
      · rw [if_neg (by omega), if_pos (by rw [meet_r hev]; exact last_take hr h0 htl)]
    rw [hpush]
    have := (eqvL.rfl' (r.take (r.length - 1))).app (t := [invO o]) (u := [lastO r]) ⟨hev, trivial⟩
    rwa [← hsl] at this
theorem fold_back : ∀ (l r : List OpL), Red r → (∀ p ∈ r, NfO p) → (∀ p ∈ l, NfO p) → eqvL ((l ++ invL l).foldl stepC r) r
  | [], r, _, _, _ => eqvL.rfl' r
  | o :: l, r, hr, hn, hl => by
    have ih := fold_back l (stepC r o) (hr.step o) (nf_step hn (hl o (by simp))) fun p hp => hl p (by simp [hp])
    rw [invL_cons, List.cons_append, List.foldl_cons, ← List.append_assoc, List.foldl_append, List.foldl_cons, List.foldl_nil]
    exact (stepC_eqv ih).trans (step_back hr hn (hl o (by simp)))
theorem comp_twice {n : Nat} {l : List OpL} (hl : ∀ o ∈ l, OkOp n o) : compL (l ++ invL l) = [] := by
  have h := fold_back l [] ⟨(fun p hp => by cases hp), (fun i hi => by simp at hi)⟩ (fun p hp => by cases hp) fun p hp => nf_ok (hl p hp)
  exact List.eq_nil_of_length_eq_zero h.len
end Go.Proofs.Ytfhcmibgpddggaa
namespace Go.Proofs.Ytfhcmibgpddggaa
open Go.RowKit
theorem ok_step {n : Nat} {r : List OpL} {o : OpL} (h : ∀ p ∈ r, OkOp n p) (ho : OkOp n o) (hk : Fits 1 ((lastO r).k + o.k)) : ∀ p ∈ stepC r o, OkOp n p := by
  have h2 : ∀ p ∈ r ++ [o], OkOp n p := fun p hp => by
    rcases List.mem_append.1 hp with g | g
    · exact h p g
    · rw [List.mem_singleton.1 g]; exact ho
  unfold stepC
  split
  · exact h
  · split
    · exact h2
    · rename_i hr
      split
      · exact h2
      · rename_i hm
        split
        · rename_i h4
          intro p hp
          rcases List.mem_append.1 hp with g | g
          · exact h p (List.mem_of_mem_take g)
          · rw [List.mem_singleton.1 g]
            have hs := meet_same (a := lastO r) (o := o) (by simpa using hm) h4.1
            have hl := h _ (getD_mem (d := (⟨0, 0, 0, 0⟩ : OpL)) (l := r) (i := r.length - 1) (by omega))
            have hl : OkOp n (lastO r) := hl
            refine ⟨hl.i, hk, .inr (.inr ⟨hs.1, ?_⟩)⟩
            rcases hl.c with ⟨a, _⟩ | ⟨a, _⟩ | ⟨_, b⟩
            · omega
            · omega
            · exact b
        · exact fun p hp => h p (List.mem_of_mem_take hp)
theorem comp_ok {n D : Nat} {l : List OpL} (h : ∀ o ∈ l, OkOp n o) (hD : KB D l) (hl : l.length ≤ 1000) (hD2 : D ≤ 100000) : (∀ p ∈ compL l, OkOp n p) ∧ KB (D + D * l.length) (compL l) := by
  have key : ∀ t, t ≤ l.length → (∀ p ∈ compL (l.take t), OkOp n p) ∧ KB (D + D * t) (compL (l.take t)) := by
    intro t
    induction t with
    | zero => intro _; exact ⟨(fun p hp => by cases hp), (fun p hp => by cases hp)⟩
    | succ t ih =>
      intro ht
      obtain ⟨i1, i2⟩ := ih (by omega)
      have hm := getD_mem (d := (⟨0, 0, 0, 0⟩ : OpL)) (l := l) (i := t) (by omega)
      have hkD := hD _ hm
      have hDt : D * t ≤ 100000 * 1000 := Nat.mul_le_mul hD2 (by omega)
      rw [take_snoc (d := (⟨0, 0, 0, 0⟩ : OpL)) (by omega), comp_snoc]
      generalize compL (l.take t) = r at *
      refine ⟨ok_step i1 (h _ hm) ?_, ?_⟩
      · by_cases hz : r.length = 0
        · have e : lastO r = ⟨0, 0, 0, 0⟩ := by rw [List.eq_nil_of_length_eq_zero hz]; rfl
          rw [e]
          exact kb_fits (B := D) (by simpa using hkD) (by omega)
        · have := kb_last i2 hz
          have := Int.natAbs_add_le (lastO r).k (l.getD t ⟨0, 0, 0, 0⟩).k
          exact kb_fits (B := D + D * t + D) (by omega) (by omega)
      · have := kb_step i2 hkD (by have := Nat.le_add_right D (D * t); omega)
        rwa [show D + D * t + D = D + D * (t + 1) by rw [Nat.mul_add]; omega] at this
  have := key l.length (Nat.le_refl _)
  rwa [List.take_of_length_le (Nat.le_refl _)] at this
section
variable {h w K : Nat} {M : List (List Int)}
theorem act_zero (hM : MI h w K M) {o : OpL} (ho : OkOp h o) (h3 : o.kd = 3) (hk : o.k = 0) : actO M o = M := by
  refine mat_ent (hM.act ho) hM fun r c hr hc => ?_
  rw [act_ent hM ho hr hc, if_neg (by omega), if_neg (by omega), hk]
  split
  · rw [Int.zero_mul, Int.add_zero]
  · rfl
theorem act_eqv (hM : MI h w K M) {o p : OpL} (ho : OkOp h o) (hp : OkOp h p) (he : eqv o p) : actO M o = actO M p := by
  refine mat_ent (hM.act ho) (hM.act hp) fun r c hr hc => ?_
  rw [act_ent hM ho hr hc, act_ent hM hp hr hc]
  obtain ⟨h1, h2, h3⟩ := he
  rw [h1, h2]
  rcases h3 with ⟨e1, e2⟩ | ⟨e0, e1, e2⟩
  · rw [e1, e2]
  · have p1 : p.kd = 1 := by omega
    rw [p1, if_pos rfl, if_pos rfl, e1, e2]
    by_cases x : r = p.i
    · by_cases y : r = p.j
      · rw [if_pos x, if_pos y, ← x, ← y]
      · rw [if_pos x, if_neg y, if_pos x]
    · by_cases y : r = p.j
      · rw [if_neg x, if_pos y, if_pos y]
      · rw [if_neg x, if_neg y, if_neg y, if_neg x]
theorem act_meet (hM : MI h w K M) {a o : OpL} (ha : OkOp h a) (ho : OkOp h o) (hm : meetB a o = true) (hn : ¬ (o.kd = 3 ∧ a.k + o.k ≠ 0)) : actO (actO M a) o = M := by
  have hkd : a.kd = o.kd := by
    unfold meetB at hm
    split at hm
    · assumption
    · cases hm
  have hev : eqv o (invO a) := by
    rcases ho.c with ⟨x, _, _, y⟩ | ⟨x, y, z⟩ | ⟨x, _⟩
    · have hk : a.k = 0 := by rcases ha.c with ⟨_, _, _, d⟩ | ⟨e, _⟩ | ⟨e, _⟩ <;> omega
      unfold meetB at hm
      rw [if_pos hkd, if_pos x, Bool.or_eq_true, Bool.and_eq_true, Bool.and_eq_true, decide_eq_true_eq, decide_eq_true_eq, decide_eq_true_eq, decide_eq_true_eq] at hm
      refine ⟨hkd.symm, by show o.k = -a.k; omega, ?_⟩
      rcases hm with ⟨u, v⟩ | ⟨u, v⟩
      · exact .inl ⟨u.symm, v.symm⟩
      · exact .inr ⟨x, v.symm, u.symm⟩
    · obtain ⟨hj, hk⟩ : a.j = 0 ∧ a.k = 0 := by rcases ha.c with ⟨e, _⟩ | ⟨_, u, v⟩ | ⟨e, _⟩ <;> omega
      unfold meetB at hm
      rw [if_pos hkd, if_neg (by omega), if_pos x, decide_eq_true_eq] at hm
      exact ⟨hkd.symm, by show o.k = -a.k; omega, .inl ⟨hm.symm, by show o.j = a.j; omega⟩⟩
    · have hs := meet_same hm x
      refine ⟨hkd.symm, ?_, .inl ⟨hs.2.1.symm, hs.2.2.symm⟩⟩
      show o.k = -a.k
      have : ¬ a.k + o.k ≠ 0 := fun e => hn ⟨x, e⟩
      omega
  rw [act_eqv (hM.act ha) ho (invO_ok ha) hev]
  exact (act_inv hM ha).1
theorem act_sum (hM : MI h w K M) {a o : OpL} (ha : OkOp h a) (ho : OkOp h o) (hm : meetB a o = true) (h3 : o.kd = 3) (hk : Fits 1 (a.k + o.k)) : actO (actO M a) o = actO M ⟨a.kd, a.i, a.j, a.k + o.k⟩ := by
  have hs := meet_same hm h3
  have hij : a.j < h ∧ a.i ≠ a.j := by rcases ha.c with ⟨e, _⟩ | ⟨e, _⟩ | ⟨_, b, c⟩ <;> first | omega | exact ⟨b, c⟩
  have hq : OkOp h ⟨a.kd, a.i, a.j, a.k + o.k⟩ := ⟨ha.i, hk, .inr (.inr ⟨hs.1, hij⟩)⟩
  have hM1 := hM.act ha
  refine mat_ent (hM1.act ho) (hM.act hq) fun r c hr hc => ?_
  rw [act_ent hM1 ho hr hc, act_ent hM hq hr hc, act_ent hM ha hr hc, act_ent hM ha (show o.j < h by rw [← hs.2.2]; exact hij.1) hc]
  simp only [hs.1, h3, ← hs.2.1, ← hs.2.2, zn1, ↓reduceIte]
  rw [if_neg (show ¬ a.j = a.i from fun e => hij.2 e.symm)]
  by_cases x : r = a.i
  · rw [if_pos x, if_pos x, if_pos x, Int.add_mul]; omega
  · rw [if_neg x, if_neg x, if_neg x]
theorem acts_step (hM : MI h w K M) {r : List OpL} {o : OpL} (hr : ∀ p ∈ r, OkOp h p) (ho : OkOp h o) (hk : Fits 1 ((lastO r).k + o.k)) : actsO M (stepC r o) = actO (actsO M r) o := by
  have push : actsO M (r ++ [o]) = actO (actsO M r) o := by rw [actsO_app]; rfl
  have hMr := acts_mi hM hr
  unfold stepC
  by_cases h1 : o.kd = 3 ∧ o.k = 0
  · rw [if_pos h1, act_zero hMr ho h1.1 h1.2]
  rw [if_neg h1]
  by_cases h2 : r.length = 0
  · rw [if_pos h2, push]
  rw [if_neg h2]
  by_cases h3 : meetB (lastO r) o = false
  · rw [if_pos h3, push]
  rw [if_neg h3]
  have hsl := snoc_last h2
  have hla : OkOp h (lastO r) := hr _ (getD_mem (d := (⟨0, 0, 0, 0⟩ : OpL)) (l := r) (i := r.length - 1) (by omega))
  have hpre : ∀ p ∈ r.take (r.length - 1), OkOp h p := fun p hp => hr p (List.mem_of_mem_take hp)
  have e : actsO M r = actO (actsO M (r.take (r.length - 1))) (lastO r) := by
    rw [congrArg (actsO M) hsl, actsO_app]; rfl
  have hMp := acts_mi hM hpre
  have hm : meetB (lastO r) o = true := by simpa using h3
  rw [e]
  by_cases h4 : o.kd = 3 ∧ (lastO r).k + o.k ≠ 0
  · rw [if_pos h4, act_sum hMp hla ho hm h4.1 hk, actsO_app]; rfl
  · rw [if_neg h4, act_meet hMp hla ho hm h4]
theorem comp_acts {D : Nat} {l : List OpL} (hM : MI h w K M) (hl : ∀ o ∈ l, OkOp h o) (hD : KB D l) (hlen : l.length ≤ 1000) (hD2 : D ≤ 100000) : actsO M (compL l) = actsO M l := by
  have key : ∀ t, t ≤ l.length → actsO M (compL (l.take t)) = actsO M (l.take t) := by
    intro t
    induction t with
    | zero => intro _; rfl
    | succ t ih =>
      intro ht
      have hm := getD_mem (d := (⟨0, 0, 0, 0⟩ : OpL)) (l := l) (i := t) (by omega)
      have htl : (l.take t).length = t := by rw [List.length_take]; omega
      obtain ⟨i1, i2⟩ := comp_ok (l := l.take t) (fun o ho => hl o (List.mem_of_mem_take ho)) (fun o ho => hD o (List.mem_of_mem_take ho)) (by omega) hD2
      have hkD := hD _ hm
      have hDt : D * t ≤ 100000 * 1000 := Nat.mul_le_mul hD2 (by omega)
      rw [htl] at i2
      have e := take_snoc (d := (⟨0, 0, 0, 0⟩ : OpL)) (l := l) (i := t) (by omega)
      rw [e, comp_snoc, actsO_app, ← ih (by omega)]
      refine acts_step hM i1 (hl _ hm) ?_
      generalize compL (l.take t) = r at *
      by_cases hz : r.length = 0
      · have e : lastO r = ⟨0, 0, 0, 0⟩ := by rw [List.eq_nil_of_length_eq_zero hz]; rfl
        rw [e]
        exact kb_fits (B := D) (by simpa using hkD) (by omega)
      · have := kb_last i2 hz
        have := Int.natAbs_add_le (lastO r).k (l.getD t ⟨0, 0, 0, 0⟩).k
        exact kb_fits (B := D + D * t + D) (by omega) (by omega)
  have := key l.length (Nat.le_refl _)
  rwa [List.take_of_length_le (Nat.le_refl _)] at this
end
theorem madeL_kb {n m : Nat} {l : List MvL} (hl : ∀ o ∈ l, OkMv o) : KB 128 (madeL n m l) := by
  intro p hp
  unfold madeL at hp
  split at hp
  · cases hp
  · obtain ⟨o, ho, h⟩ := List.mem_filterMap.1 hp
    have hk := (hl o (List.mem_of_mem_take ho)).k
    unfold mkO at h
    split at h
    · cases h; simp
    · split at h
      · cases h
      · split at h
        · cases h; simp only; omega
        · cases h; simp
theorem kb_inv {D : Nat} {l : List OpL} (h : KB D l) : KB D (invL l) := by
  intro p hp
  simp only [invL, List.mem_reverse, List.mem_map] at hp
  obtain ⟨o, ho, rfl⟩ := hp
  have := h o ho
  show (-o.k).natAbs ≤ D
  rwa [Int.natAbs_neg]
end Go.Proofs.Ytfhcmibgpddggaa
