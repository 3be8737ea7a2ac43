/- Texts joined: Ra Rb Rc Rd Re Rf. -/
import Derived.Test.YtfhcmibgpddggaaZc
import Derived.Test.YtfhcmibgpddggaaZe
import Derived.Test.YtfhcmibgpddggaaZf
import Derived.Test.YtfhcmibgpddggaaZh
import Derived.Test.YtfhcmibgpddggaaZh
import Derived.Test.YtfhcmibgpddggaaZi
set_option linter.all false
open Nat renaming reduceEqDiff → zn1, reduceLT → zn2, reduceLeDiff → zn3, reduceAdd → zn4, reduceMul → zn5, reduceSub → zn6, reduceBEq → zn7
open Int renaming reduceToNat → zi1, reducePow → zi2
namespace Go.Proofs.Ytfhcmibgpddggaa
open Go.RowKit
structure OpL where
  kd : Nat
  i : Nat
  j : Nat
  k : Int
def opC (o : OpL) : List V := [.sc (.int .i64 o.kd), .sc (.int .i64 o.i), .sc (.int .i64 o.j), .sc (.bool (decide (o.k < 0))), sv (limbsOf o.k.natAbs)]
def opsC : List OpL → List V
  | [] => []
  | o :: r => opC o ++ opsC r
structure OkOp (n : Nat) (o : OpL) : Prop where
  i : o.i < n
  k : Fits 1 o.k
  c : (o.kd = 1 ∧ o.j < n ∧ o.i ≠ o.j ∧ o.k = 0) ∨ (o.kd = 2 ∧ o.j = 0 ∧ o.k = 0) ∨ (o.kd = 3 ∧ o.j < n ∧ o.i ≠ o.j)
theorem opsC_len : ∀ l : List OpL, (opsC l).length = 5 * l.length
  | [] => rfl
  | o :: r => by
    rw [opsC, List.length_append, opsC_len r, List.length_cons]
    show 5 + _ = _
    omega
theorem opsC_drop : ∀ {l : List OpL} {i : Nat}, i < l.length → (opsC l).drop (i * 5) = opC (l.getD i ⟨0, 0, 0, 0⟩) ++ (opsC l).drop ((i + 1) * 5)
  | o :: r, 0, _ => by
    show opC o ++ opsC r = opC o ++ (opC o ++ opsC r).drop 5
    rw [show (opC o ++ opsC r).drop 5 = opsC r from rfl]
  | o :: r, i + 1, h => by
    have e : ∀ m, (m + 1) * 5 = (opC o).length + m * 5 := by intro m; show _ = 5 + _; omega
    have hd : ∀ m, (opsC (o :: r)).drop ((m + 1) * 5) = (opsC r).drop (m * 5) := by
      intro m
      rw [e, opsC, List.drop_append]
      simp only [Nat.add_sub_cancel_left, List.drop_eq_nil_of_le (Nat.le_add_right _ _), List.nil_append]
    rw [hd, hd]
    exact opsC_drop (by simpa using h)
theorem pvalid_i (z : Int) (K : Nat) (hz : Fits K z) (hK : K ≤ 1000000000) : Spec Try.prog 59 [iv z] (.sc (.bool true)) := by
  have hl := fits_len hz
  have h := valid_g (limbsOf z.natAbs) _ (decide (z < 0)) rfl (by omega)
  have : validB (limbsOf z.natAbs) (decide (z < 0)) = true := by
    unfold validB
    split
    · rename_i h0
      have h1 := limbsOf_val z.natAbs
      rw [List.eq_nil_of_length_eq_zero h0] at h1
      have : z = 0 := by simp [val] at h1; omega
      subst this; rfl
    · rename_i h0
      have hc := limbsOf_canon z.natAbs
      have hne : limbsOf z.natAbs ≠ [] := fun e => h0 (by rw [e]; rfl)
      have := hc hne
      rw [List.getLast_eq_getElem] at this
      rw [List.getD_eq_getElem?_getD, List.getElem?_eq_getElem (by omega)]
      simpa using this
  rw [this] at h
  exact h
theorem inN_s (i n : Int) (nx : Nat) (hnx : 1 < nx) : Inl Try.prog 83 [.sc (.int .i64 i), .pt 1 0] [(1, ⟨3, [.sc (.int .i64 n)], false⟩)] nx (.sc (.bool (decide (0 ≤ i) && decide (i < n)))) [(1, ⟨3, [.sc (.int .i64 n)], false⟩)] nx := by
  refine Inl.run Try.func83 rfl Try.ntmps83 (by simp) (by simp (disch := omega) only [go_sem, zn4]; rfl) fun B hB => ?_
  by_cases h1 : 0 ≤ i
  · have q1 := decide_eq_true h1
    (repeat (first | refine DO.nil (by kernel_rfl) ?_ | (with_reducible first | apply oz1 | apply oz2 | apply oz3 | apply oz4 | apply oz5 | apply oz6 | apply oz7 | apply oz8 | apply oz9 | apply ozb | apply ozc | apply oze | apply ozf | apply ozg | apply ozh | apply ozi | apply ozj | apply ozk | refine ozd (by decide) ?_) | ((first | apply SO.call | apply DO.call); (iterate 3 (focus (simp (disch := omega) only [go_sem, ↓reduceIte, zn1, zn2, zn3, zn4, zn5, zn6, reduceCtorEq, zn7, zi1, zi2, if_pos, if_neg, q1] <;> rfl))); (first | apply SCall.ofX | apply DCall.ofX); (focus (first | assumption)); (focus (simp (disch := omega) only [go_sem, ↓reduceIte, zn1, zn2, zn3, zn4, zn5, zn6, reduceCtorEq, zn7, zi1, zi2, if_pos, if_neg, q1] <;> rfl))) | ((with_reducible first | apply SC.condB | apply SC.region | apply SO.run | apply DO.run); (focus (simp (disch := omega) only [go_sem, ↓reduceIte, zn1, zn2, reduceCtorEq, q1] <;> rfl)); (first | refine pickT ?_ | refine pickF ?_ | fail_if_success with_reducible refine pickA ?_)) | ((with_reducible refine SC.draw Tab.mixed ?_ ?_); (focus (first | rfl | simp (disch := omega) only [go_sem, ↓reduceIte, zn1, zn2, zn3, zn4, zn5, zn6, reduceCtorEq, zn7, zi1, zi2, if_pos, if_neg, q1]))) | (with_reducible apply SC.ops)))
    refine retI_ret Try.results83 (by simp (disch := omega) only [go_sem, ↓reduceIte] <;> rfl) ?_
    rw [q1, Bool.true_and]
    (refine Le.slots ?_ ?_ ?_ <;> (repeat' (first | (exact fun _ _ h => h) | exact Nat.le_refl _ | exact leSl_nil | refine leSl_cons (by simp (disch := omega) only [go_sem, ↓reduceIte] <;> rfl) ?_ ?_ | exact VLe.junk _ | exact VLe.refl rfl | exact VLe.nil_sl _ _ _ | exact VLe.int (by first | rfl | omega | (dsimp only; omega)) | exact VLe.bool rfl | exact VLe.sl rfl (by first | rfl | omega) | exact VLe.cap rfl (by first | rfl | omega) | exact VLe.im rfl rfl | omega | (refine fun id k h => ?_; simp only [hget] at h ⊢; (repeat' (split at h)) <;> first | (cases h; done) | (simp (disch := omega) only [if_pos, if_neg]; exact h)))))
  · have q1 := decide_eq_false h1
    (repeat (first | refine DO.nil (by kernel_rfl) ?_ | (with_reducible first | apply oz1 | apply oz2 | apply oz3 | apply oz4 | apply oz5 | apply oz6 | apply oz7 | apply oz8 | apply oz9 | apply ozb | apply ozc | apply oze | apply ozf | apply ozg | apply ozh | apply ozi | apply ozj | apply ozk | refine ozd (by decide) ?_) | ((first | apply SO.call | apply DO.call); (iterate 3 (focus (simp (disch := omega) only [go_sem, ↓reduceIte, zn1, zn2, zn3, zn4, zn5, zn6, reduceCtorEq, zn7, zi1, zi2, if_pos, if_neg, q1] <;> rfl))); (first | apply SCall.ofX | apply DCall.ofX); (focus (first | assumption)); (focus (simp (disch := omega) only [go_sem, ↓reduceIte, zn1, zn2, zn3, zn4, zn5, zn6, reduceCtorEq, zn7, zi1, zi2, if_pos, if_neg, q1] <;> rfl))) | ((with_reducible first | apply SC.condB | apply SC.region | apply SO.run | apply DO.run); (focus (simp (disch := omega) only [go_sem, ↓reduceIte, zn1, zn2, reduceCtorEq, q1] <;> rfl)); (first | refine pickT ?_ | refine pickF ?_ | fail_if_success with_reducible refine pickA ?_)) | ((with_reducible refine SC.draw Tab.mixed ?_ ?_); (focus (first | rfl | simp (disch := omega) only [go_sem, ↓reduceIte, zn1, zn2, zn3, zn4, zn5, zn6, reduceCtorEq, zn7, zi1, zi2, if_pos, if_neg, q1]))) | (with_reducible apply SC.ops)))
    refine retI_ret Try.results83 (by simp (disch := omega) only [go_sem, ↓reduceIte] <;> rfl) ?_
    rw [q1, Bool.false_and]
    (refine Le.slots ?_ ?_ ?_ <;> (repeat' (first | (exact fun _ _ h => h) | exact Nat.le_refl _ | exact leSl_nil | refine leSl_cons (by simp (disch := omega) only [go_sem, ↓reduceIte] <;> rfl) ?_ ?_ | exact VLe.junk _ | exact VLe.refl rfl | exact VLe.nil_sl _ _ _ | exact VLe.int (by first | rfl | omega | (dsimp only; omega)) | exact VLe.bool rfl | exact VLe.sl rfl (by first | rfl | omega) | exact VLe.cap rfl (by first | rfl | omega) | exact VLe.im rfl rfl | omega | (refine fun id k h => ?_; simp only [hget] at h ⊢; (repeat' (split at h)) <;> first | (cases h; done) | (simp (disch := omega) only [if_pos, if_neg]; exact h)))))
end Go.Proofs.Ytfhcmibgpddggaa
namespace Go.Proofs.Ytfhcmibgpddggaa
open Go.RowKit
theorem onlyN (p : Nat → Prop) (n : Int) (id ty : Nat) : OnlyH p [(id, ⟨ty, [.sc (.int .i64 n)], false⟩)] := ⟨fun y hy => by simp at hy; subst hy; exact .sc _, trivial⟩
set_option maxHeartbeats 4000000 in
set_option maxRecDepth 8000 in
theorem fits_s {n : Nat} {o : OpL} (h : OkOp n o) (hn : n ≤ 1000000) : Spec Try.prog 57 [.ag (opC o), .sc (.int .i64 n)] (.sc (.bool true)) := by
  obtain ⟨kd, i, j, k⟩ := o
  obtain ⟨hi, hk, hc⟩ := h
  simp only at hi hk hc
  have c1 := pvalid_i k 1 hk (by omega)
  have c2 := psign_i k 1 hk (by omega)
  have d1 := inN_s i n
  have d2 := inN_s j n
  have e1 : (decide ((0 : Int) ≤ (i : Int)) && decide ((i : Int) < (n : Int))) = true := by simp; omega
  rw [e1] at d1
  unfold opC
  unfold iv sv at c1 c2
  unfold sv
  simp only
  refine Spec.run Try.func57 rfl Try.ntmps57 (by simp) (by simp (disch := omega) only [go_sem, zn4]; rfl) fun B hB => ?_
  (repeat (first | refine DO.nil (by kernel_rfl) ?_ | (with_reducible first | apply oz1 | apply oz2 | apply oz3 | apply oz4 | apply oz5 | apply oz6 | apply oz7 | apply oz8 | apply oz9 | apply ozb | apply ozc | apply oze | apply ozf | apply ozg | apply ozh | apply ozi | apply ozj | apply ozk | refine ozd (by decide) ?_) | ((first | apply SO.call | apply DO.call); (iterate 3 (focus (simp (disch := omega) only [go_sem, ↓reduceIte] <;> rfl))); (first | apply SCall.ofX | apply DCall.ofX); (focus (first | assumption)); (focus (simp (disch := omega) only [go_sem] <;> rfl))) | ((with_reducible first | apply SC.condB | apply SC.region | apply SO.run | apply DO.run); (focus (simp (disch := omega) only [go_sem, ↓reduceIte, zn1, zn3, zn4, reduceCtorEq] <;> rfl)); (first | refine pickT ?_ | refine pickF ?_ | fail_if_success with_reducible refine pickA ?_)) | ((with_reducible refine SC.draw Tab.mixed ?_ ?_); (focus (first | rfl | simp (disch := omega) only [go_sem, ↓reduceIte, zn1, zn2, zn3, zn4, zn5, zn6, reduceCtorEq, zn7, zi1, zi2, if_pos, if_neg]))) | (with_reducible apply SC.ops)))
  refine SO.inl (by simp (disch := omega) only [go_sem, ↓reduceIte, zn1] <;> rfl) Tab.go83 (by simp (disch := omega) only [go_sem, ↓reduceIte] <;> rfl) (by simp (disch := omega) only [go_sem, ↓reduceIte, zn1] <;> rfl) ?_
  refine SInl.of (d1 _ (by omega)) (by simp (disch := omega) only [go_sem, ↓reduceIte]) (.sc _) (onlyN _ _ _ _) (by simp (disch := omega) only [go_sem] <;> rfl) (by simp (disch := omega) only [go_sem, ↓reduceIte, reduceCtorEq] <;> rfl) ?_
  rcases hc with ⟨rfl, hj, hij, rfl⟩ | ⟨rfl, rfl, rfl⟩ | ⟨rfl, hj, hij⟩
  · have e2 : (decide ((0 : Int) ≤ (j : Int)) && decide ((j : Int) < (n : Int))) = true := by simp; omega
    rw [e2] at d2
    have e3 : ((i : Int) != (j : Int)) = true := by simp; omega
    (repeat (first | refine DO.nil (by kernel_rfl) ?_ | (with_reducible first | apply oz1 | apply oz2 | apply oz3 | apply oz4 | apply oz5 | apply oz6 | apply oz7 | apply oz8 | apply oz9 | apply ozb | apply ozc | apply oze | apply ozf | apply ozg | apply ozh | apply ozi | apply ozj | apply ozk | refine ozd (by decide) ?_) | ((first | apply SO.call | apply DO.call); (iterate 3 (focus (simp (disch := omega) only [go_sem, ↓reduceIte, zn1, zn2, zn3, zn4, zn5, zn6, reduceCtorEq, zn7, zi1, zi2, if_pos, if_neg, e3, Int.sign_zero] <;> rfl))); (first | apply SCall.ofX | apply DCall.ofX); (focus (first | assumption)); (focus (simp (disch := omega) only [go_sem, ↓reduceIte, zn1, zn2, zn3, zn4, zn5, zn6, reduceCtorEq, zn7, zi1, zi2, if_pos, if_neg, e3, Int.sign_zero] <;> rfl))) | ((with_reducible first | apply SC.condB | apply SC.region | apply SO.run | apply DO.run); (focus (simp (disch := omega) only [go_sem, ↓reduceIte, zn1, reduceCtorEq] <;> rfl)); (first | refine pickT ?_ | refine pickF ?_ | fail_if_success with_reducible refine pickA ?_)) | ((with_reducible refine SC.draw Tab.mixed ?_ ?_); (focus (first | rfl | simp (disch := omega) only [go_sem, ↓reduceIte, zn1, zn2, zn3, zn4, zn5, zn6, reduceCtorEq, zn7, zi1, zi2, if_pos, if_neg, e3, Int.sign_zero]))) | (with_reducible apply SC.ops)))
    refine SO.inl (by simp (disch := omega) only [go_sem, ↓reduceIte, zn1] <;> rfl) Tab.go83 (by simp (disch := omega) only [go_sem, ↓reduceIte] <;> rfl) (by simp (disch := omega) only [go_sem] <;> rfl) ?_
    refine SInl.of (d2 _ (by omega)) (by simp (disch := omega) only [go_sem, ↓reduceIte]) (.sc _) (onlyN _ _ _ _) (by simp (disch := omega) only [go_sem] <;> rfl) (by simp (disch := omega) only [go_sem, ↓reduceIte, reduceCtorEq] <;> rfl) ?_
    (repeat (first | refine DO.nil (by kernel_rfl) ?_ | (with_reducible first | apply oz1 | apply oz2 | apply oz3 | apply oz4 | apply oz5 | apply oz6 | apply oz7 | apply oz8 | apply oz9 | apply ozb | apply ozc | apply oze | apply ozf | apply ozg | apply ozh | apply ozi | apply ozj | apply ozk | refine ozd (by decide) ?_) | ((first | apply SO.call | apply DO.call); (iterate 3 (focus (simp (disch := omega) only [go_sem, ↓reduceIte, zn1] <;> rfl))); (first | apply SCall.ofX | apply DCall.ofX); (focus (first | assumption)); (focus (simp (disch := omega) only [go_sem, Int.sign_zero] <;> rfl))) | ((with_reducible first | apply SC.condB | apply SC.region | apply SO.run | apply DO.run); (focus (simp (disch := omega) only [go_sem, ↓reduceIte, zn1, zn3, zn4, reduceCtorEq, e3] <;> rfl)); (first | refine pickT ?_ | refine pickF ?_ | fail_if_success with_reducible refine pickA ?_)) | ((with_reducible refine SC.draw Tab.mixed ?_ ?_); (focus (first | rfl | simp (disch := omega) only [go_sem, ↓reduceIte, zn1, zn2, zn3, zn4, zn5, zn6, reduceCtorEq, zn7, zi1, zi2, if_pos, if_neg, e3, Int.sign_zero]))) | (with_reducible apply SC.ops)))
    exact retQ_ret Try.results57 (by simp (disch := omega) only [go_sem, ↓reduceIte] <;> rfl) (by simp (disch := omega) only [go_sem] <;> rfl) rfl
  · (repeat (first | refine DO.nil (by kernel_rfl) ?_ | (with_reducible first | apply oz1 | apply oz2 | apply oz3 | apply oz4 | apply oz5 | apply oz6 | apply oz7 | apply oz8 | apply oz9 | apply ozb | apply ozc | apply oze | apply ozf | apply ozg | apply ozh | apply ozi | apply ozj | apply ozk | refine ozd (by decide) ?_) | ((first | apply SO.call | apply DO.call); (iterate 3 (focus (simp (disch := omega) only [go_sem, ↓reduceIte, zn1] <;> rfl))); (first | apply SCall.ofX | apply DCall.ofX); (focus (first | assumption)); (focus (simp (disch := omega) only [go_sem, Int.sign_zero] <;> rfl))) | ((with_reducible first | apply SC.condB | apply SC.region | apply SO.run | apply DO.run); (focus (simp (disch := omega) only [go_sem, ↓reduceIte, zn1, zn3, zn4, reduceCtorEq] <;> rfl)); (first | refine pickT ?_ | refine pickF ?_ | fail_if_success with_reducible refine pickA ?_)) | ((with_reducible refine SC.draw Tab.mixed ?_ ?_); (focus (first | rfl | simp (disch := omega) only [go_sem, ↓reduceIte, zn1, zn2, zn3, zn4, zn5, zn6, reduceCtorEq, zn7, zi1, zi2, if_pos, if_neg, Int.sign_zero]))) | (with_reducible apply SC.ops)))
    exact retQ_ret Try.results57 (by simp (disch := omega) only [go_sem, ↓reduceIte] <;> rfl) (by simp (disch := omega) only [go_sem] <;> rfl) rfl
  · have e2 : (decide ((0 : Int) ≤ (j : Int)) && decide ((j : Int) < (n : Int))) = true := by simp; omega
    rw [e2] at d2
    have e3 : ((i : Int) != (j : Int)) = true := by simp; omega
    (repeat (first | refine DO.nil (by kernel_rfl) ?_ | (with_reducible first | apply oz1 | apply oz2 | apply oz3 | apply oz4 | apply oz5 | apply oz6 | apply oz7 | apply oz8 | apply oz9 | apply ozb | apply ozc | apply oze | apply ozf | apply ozg | apply ozh | apply ozi | apply ozj | apply ozk | refine ozd (by decide) ?_) | ((first | apply SO.call | apply DO.call); (iterate 3 (focus (simp (disch := omega) only [go_sem, ↓reduceIte, zn1, zn2, zn3, zn4, zn5, zn6, reduceCtorEq, zn7, zi1, zi2, if_pos, if_neg, e3, Int.sign_zero] <;> rfl))); (first | apply SCall.ofX | apply DCall.ofX); (focus (first | assumption)); (focus (simp (disch := omega) only [go_sem, ↓reduceIte, zn1, zn2, zn3, zn4, zn5, zn6, reduceCtorEq, zn7, zi1, zi2, if_pos, if_neg, e3, Int.sign_zero] <;> rfl))) | ((with_reducible first | apply SC.condB | apply SC.region | apply SO.run | apply DO.run); (focus (simp (disch := omega) only [go_sem, ↓reduceIte, zn1, reduceCtorEq] <;> rfl)); (first | refine pickT ?_ | refine pickF ?_ | fail_if_success with_reducible refine pickA ?_)) | ((with_reducible refine SC.draw Tab.mixed ?_ ?_); (focus (first | rfl | simp (disch := omega) only [go_sem, ↓reduceIte, zn1, zn2, zn3, zn4, zn5, zn6, reduceCtorEq, zn7, zi1, zi2, if_pos, if_neg, e3, Int.sign_zero]))) | (with_reducible apply SC.ops)))
    refine SO.inl (by simp (disch := omega) only [go_sem, ↓reduceIte, zn1] <;> rfl) Tab.go83 (by simp (disch := omega) only [go_sem, ↓reduceIte] <;> rfl) (by simp (disch := omega) only [go_sem] <;> rfl) ?_
    refine SInl.of (d2 _ (by omega)) (by simp (disch := omega) only [go_sem, ↓reduceIte]) (.sc _) (onlyN _ _ _ _) (by simp (disch := omega) only [go_sem] <;> rfl) (by simp (disch := omega) only [go_sem, ↓reduceIte, reduceCtorEq] <;> rfl) ?_
    (repeat (first | refine DO.nil (by kernel_rfl) ?_ | (with_reducible first | apply oz1 | apply oz2 | apply oz3 | apply oz4 | apply oz5 | apply oz6 | apply oz7 | apply oz8 | apply oz9 | apply ozb | apply ozc | apply oze | apply ozf | apply ozg | apply ozh | apply ozi | apply ozj | apply ozk | refine ozd (by decide) ?_) | ((first | apply SO.call | apply DO.call); (iterate 3 (focus (simp (disch := omega) only [go_sem, ↓reduceIte, zn1, zn2, zn3, zn4, zn5, zn6, reduceCtorEq, zn7, zi1, zi2, if_pos, if_neg, e3, Int.sign_zero] <;> rfl))); (first | apply SCall.ofX | apply DCall.ofX); (focus (first | assumption)); (focus (simp (disch := omega) only [go_sem, ↓reduceIte, zn1, zn2, zn3, zn4, zn5, zn6, reduceCtorEq, zn7, zi1, zi2, if_pos, if_neg, e3, Int.sign_zero] <;> rfl))) | ((with_reducible first | apply SC.condB | apply SC.region | apply SO.run | apply DO.run); (focus (simp (disch := omega) only [go_sem, ↓reduceIte, zn1, zn2, reduceCtorEq, e3] <;> rfl)); (first | refine pickT ?_ | refine pickF ?_ | fail_if_success with_reducible refine pickA ?_)) | ((with_reducible refine SC.draw Tab.mixed ?_ ?_); (focus (first | rfl | simp (disch := omega) only [go_sem, ↓reduceIte, zn1, zn2, zn3, zn4, zn5, zn6, reduceCtorEq, zn7, zi1, zi2, if_pos, if_neg, e3, Int.sign_zero]))) | (with_reducible apply SC.ops)))
    exact retQ_ret Try.results57 (by simp (disch := omega) only [go_sem, ↓reduceIte] <;> rfl) (by simp (disch := omega) only [go_sem] <;> rfl) rfl
theorem ivalid_s {n : Nat} {l : List OpL} (h : ∀ o ∈ l, OkOp n o) (hn : n ≤ 1000000) (hl : l.length ≤ 1000000) : Spec Try.prog 30 [.im (opsC l) l.length, .sc (.int .i64 n)] (.sc (.bool true)) := by
  refine Spec.run Try.func30 rfl Try.ntmps30 (by simp) (by simp (disch := omega) only [go_sem, zn4]; rfl) fun B hB => ?_
  (repeat (first | refine DO.nil (by kernel_rfl) ?_ | (with_reducible first | apply oz1 | apply oz2 | apply oz3 | apply oz4 | apply oz5 | apply oz6 | apply oz7 | apply oz8 | apply oz9 | apply ozb | apply ozc | apply oze | apply ozf | apply ozg | apply ozh | apply ozi | apply ozj | apply ozk | refine ozd (by decide) ?_) | ((first | apply SO.call | apply DO.call); (iterate 3 (focus (simp (disch := omega) only [go_sem, ↓reduceIte, zn1, zn2, zn3, zn4, zn5, zn6, reduceCtorEq, zn7, zi1, zi2, if_pos, if_neg] <;> rfl))); (first | apply SCall.ofX | apply DCall.ofX); (focus (first | assumption)); (focus (simp (disch := omega) only [go_sem, ↓reduceIte, zn1, zn2, zn3, zn4, zn5, zn6, reduceCtorEq, zn7, zi1, zi2, if_pos, if_neg] <;> rfl))) | ((with_reducible first | apply SC.condB | apply SC.region | apply SO.run | apply DO.run); (focus (simp (disch := omega) only [go_sem, ↓reduceIte, reduceCtorEq] <;> rfl)); (first | refine pickT ?_ | refine pickF ?_ | fail_if_success with_reducible refine pickA ?_)) | ((with_reducible refine SC.draw Tab.mixed ?_ ?_); (focus (first | rfl | simp (disch := omega) only [go_sem, ↓reduceIte, zn1, zn2, zn3, zn4, zn5, zn6, reduceCtorEq, zn7, zi1, zi2, if_pos, if_neg]))) | (with_reducible apply SC.ops)))
  refine SC.loop (fun i : Nat => ⟨[(1, .sc (.int .i64 n)), (7, .im (opsC l) l.length), (8, .sc (.int .i64 l.length)), (9, .sc (.int .i64 i))], [], 0, 18⟩)
    (fun i => i ≤ l.length) (fun i => l.length - i) 0 ?_ ?_ ?_
  · (refine Le.of [] hB (by first | exact ⟨Nat.zero_le _, fun _ _ => Nat.zero_le _⟩ | (constructor <;> (try simp) <;> (try omega))) ?_ ?_ <;> (repeat' (first | exact leSl_nil | exact leHp_nil | refine leSl_cons (by simp (disch := omega) only [go_sem, ↓reduceIte, zn1, reduceCtorEq]; rfl) ?_ ?_ | refine leHp_cons (by simp (disch := omega) only [go_sem, ↓reduceIte, zn1, zn2, zn3, zn4, zn5, zn6, reduceCtorEq, zn7, zi1, zi2, if_pos, if_neg]; rfl) ?_ ?_ | exact VLe.junk _ | exact VLe.refl rfl | exact VLe.nil_sl _ _ _ | exact VLe.int (by first | rfl | omega | (dsimp only; omega)) | exact VLe.bool rfl | exact VLe.sl rfl (by first | rfl | omega | (dsimp only; omega) | (simp; done)) | exact VLe.cap rfl (by first | rfl | omega | (dsimp only; omega) | (simp; done)) | exact VLe.im rfl rfl | exact HLe.new rfl | exact HLe.same rfl (LLe.refl rfl) | refine HLe.same rfl ?_ | exact LLe.nil _ | exact LLe.refl rfl | refine LLe.cons ?_ ?_)))
  · exact Nat.zero_le _
  · intro i hi K hK
    by_cases hc : i < l.length
    · have q1 := decide_eq_true (p := (i : Int) < (l.length : Int)) (by omega)
      have g1 := opsC_drop hc
      have g2 : i * 5 < (opsC l).length := by rw [opsC_len]; omega
      have c1 := fits_s (h _ (getD_mem (d := ⟨0, 0, 0, 0⟩) hc)) hn
      generalize l.getD i ⟨0, 0, 0, 0⟩ = o at *
      generalize (opsC l).drop ((i + 1) * 5) = D at *
      unfold opC at g1 c1
      simp only [List.cons_append, List.nil_append] at g1
      (repeat (first | refine DO.nil (by kernel_rfl) ?_ | (with_reducible first | apply oz1 | apply oz2 | apply oz3 | apply oz4 | apply oz5 | apply oz6 | apply oz7 | apply oz8 | apply oz9 | apply ozb | apply ozc | apply oze | apply ozf | apply ozg | apply ozh | apply ozi | apply ozj | apply ozk | refine ozd (by decide) ?_) | ((first | apply SO.call | apply DO.call); (iterate 3 (focus (simp (disch := omega) only [go_sem, ↓reduceIte, zn1] <;> rfl))); (first | apply SCall.ofX | apply DCall.ofX); (focus (first | assumption)); (focus (simp (disch := omega) only [go_sem] <;> rfl))) | ((with_reducible first | apply SC.condB | apply SC.region | apply SO.run | apply DO.run); (focus (simp (disch := omega) only [go_sem, ↓reduceIte, zn1, zn2, zn3, zn4, if_pos, q1, g1, g2] <;> rfl)); (first | refine pickT ?_ | refine pickF ?_ | fail_if_success with_reducible refine pickA ?_)) | ((with_reducible refine SC.draw Tab.mixed ?_ ?_); (focus (first | rfl | simp (disch := omega) only [go_sem, ↓reduceIte, zn1, zn2, zn3, zn4, zn5, zn6, reduceCtorEq, zn7, zi1, zi2, if_pos, if_neg, q1, g1, g2]))) | (with_reducible apply SC.ops)))
      refine hK _ (i + 1) ?_ (by omega) (by omega)
      (refine Le.of [] hB (by first | exact ⟨Nat.zero_le _, fun _ _ => Nat.zero_le _⟩ | (constructor <;> (try simp) <;> (try omega))) ?_ ?_ <;> (repeat' (first | exact leSl_nil | exact leHp_nil | refine leSl_cons (by simp (disch := omega) only [go_sem, ↓reduceIte, zn1]; rfl) ?_ ?_ | refine leHp_cons (by simp (disch := omega) only [go_sem, ↓reduceIte, zn1, zn2, zn3, zn4, zn5, zn6, reduceCtorEq, zn7, zi1, zi2, if_pos, if_neg]; rfl) ?_ ?_ | exact VLe.junk _ | exact VLe.refl rfl | exact VLe.nil_sl _ _ _ | exact VLe.int (by first | rfl | omega | (dsimp only; omega)) | exact VLe.bool rfl | exact VLe.sl rfl (by first | rfl | omega | (dsimp only; omega) | (simp; done)) | exact VLe.cap rfl (by first | rfl | omega | (dsimp only; omega) | (simp; done)) | exact VLe.im rfl rfl | exact HLe.new rfl | exact HLe.same rfl (LLe.refl rfl) | refine HLe.same rfl ?_ | exact LLe.nil _ | exact LLe.refl rfl | refine LLe.cons ?_ ?_)))
    · have q1 := decide_eq_false (p := (i : Int) < (l.length : Int)) (by omega)
      (repeat (first | refine DO.nil (by kernel_rfl) ?_ | (with_reducible first | apply oz1 | apply oz2 | apply oz3 | apply oz4 | apply oz5 | apply oz6 | apply oz7 | apply oz8 | apply oz9 | apply ozb | apply ozc | apply oze | apply ozf | apply ozg | apply ozh | apply ozi | apply ozj | apply ozk | refine ozd (by decide) ?_) | ((first | apply SO.call | apply DO.call); (iterate 3 (focus (simp (disch := omega) only [go_sem, ↓reduceIte, zn1, zn2, zn3, zn4, zn5, zn6, reduceCtorEq, zn7, zi1, zi2, if_pos, if_neg, q1] <;> rfl))); (first | apply SCall.ofX | apply DCall.ofX); (focus (first | assumption)); (focus (simp (disch := omega) only [go_sem, ↓reduceIte, zn1, zn2, zn3, zn4, zn5, zn6, reduceCtorEq, zn7, zi1, zi2, if_pos, if_neg, q1] <;> rfl))) | ((with_reducible first | apply SC.condB | apply SC.region | apply SO.run | apply DO.run); (focus (simp (disch := omega) only [go_sem, ↓reduceIte, zn1, q1] <;> rfl)); (first | refine pickT ?_ | refine pickF ?_ | fail_if_success with_reducible refine pickA ?_)) | ((with_reducible refine SC.draw Tab.mixed ?_ ?_); (focus (first | rfl | simp (disch := omega) only [go_sem, ↓reduceIte, zn1, zn2, zn3, zn4, zn5, zn6, reduceCtorEq, zn7, zi1, zi2, if_pos, if_neg, q1]))) | (with_reducible apply SC.ops)))
      exact retQ_ret Try.results30 (by simp (disch := omega) only [go_sem, ↓reduceIte] <;> rfl) (by simp (disch := omega) only [go_sem] <;> rfl) rfl
end Go.Proofs.Ytfhcmibgpddggaa
namespace Go.Proofs.Ytfhcmibgpddggaa
open Go.RowKit
def ivC (z : Int) : List V := [.sc (.bool (decide (z < 0))), sv (limbsOf z.natAbs)]
def ivR : List Int → List V
  | [] => []
  | z :: r => ivC z ++ ivR r
theorem ivR_len : ∀ l : List Int, (ivR l).length = 2 * l.length
  | [] => rfl
  | z :: r => by
    rw [ivR, List.length_append, ivR_len r, List.length_cons]
    show 2 + _ = _
    omega
theorem ivR_clo : ∀ l : List Int, (ivR l).all clo = true
  | [] => rfl
  | z :: r => by
    rw [ivR, List.all_append, ivR_clo r]; rfl
theorem ivR_one : ∀ l : List Int, (ivR l).all V.one = true
  | [] => rfl
  | z :: r => by
    rw [ivR, List.all_append, ivR_one r]; rfl
theorem ivR_drop : ∀ {l : List Int} {i : Nat}, i < l.length → (ivR l).drop (i * 2) = ivC (l.getD i 0) ++ (ivR l).drop ((i + 1) * 2)
  | o :: r, 0, _ => rfl
  | o :: r, i + 1, h => by
    have e : ∀ m, (m + 1) * 2 = (ivC o).length + m * 2 := by intro m; show _ = 2 + _; omega
    have hd : ∀ m, (ivR (o :: r)).drop ((m + 1) * 2) = (ivR r).drop (m * 2) := by
      intro m
      rw [e, ivR, List.drop_append]
      simp only [Nat.add_sub_cancel_left, List.drop_eq_nil_of_le (Nat.le_add_right _ _), List.nil_append]
    rw [hd, hd]
    exact ivR_drop (by simpa using h)
theorem ivR_set : ∀ {l : List Int} {i : Nat} (z : Int), i < l.length → setAll (ivR l) (i * 2) (ivC z) = ivR (l.set i z)
  | o :: r, 0, z, _ => rfl
  | o :: r, i + 1, z, h => by
    have h' : i < r.length := by simpa using h
    have ih := ivR_set z h'
    rw [setAll_all _ _ _ (by rw [ivR_len]; show _ + 2 ≤ _; omega)] at ih
    rw [setAll_all _ _ _ (by rw [ivR_len, List.length_cons]; show _ + 2 ≤ _; omega)]
    have e : (i + 1) * 2 = (ivC o).length + i * 2 := by show _ = 2 + _; omega
    have e2 : (i + 1) * 2 + (ivC z).length = (ivC o).length + (i * 2 + (ivC z).length) := by omega
    rw [e2, e, ivR, List.take_length_add_append, List.drop_length_add_append, List.append_assoc, List.append_assoc, ← List.append_assoc ((ivR r).take _), ih]
    rfl
def rI (M : List (List Int)) : List (List V) := M.map ivR
theorem rI_len (M : List (List Int)) : (rI M).length = M.length := by simp [rI]
theorem rI_getD (M : List (List Int)) (i : Nat) : (rI M).getD i [] = ivR (M.getD i []) := by
  unfold rI
  rw [List.getD_eq_getElem?_getD, List.getElem?_map, List.getD_eq_getElem?_getD]
  cases M[i]? <;> rfl
theorem rI_set (M : List (List Int)) (i : Nat) (r : List Int) : (rI M).set i (ivR r) = rI (M.set i r) := by simp [rI, List.map_set]
theorem rI_clo (M : List (List Int)) : ∀ r ∈ rI M, r.all clo = true := by
  intro r hr; obtain ⟨q, _, rfl⟩ := List.mem_map.1 hr; exact ivR_clo q
structure MI (h w K : Nat) (M : List (List Int)) : Prop where
  len : M.length = h
  row : ∀ r ∈ M, r.length = w ∧ ∀ x ∈ r, Fits K x
theorem MI.get {h w K : Nat} {M : List (List Int)} (hM : MI h w K M) {i : Nat} (hi : i < h) : (M.getD i []).length = w ∧ ∀ x ∈ M.getD i [], Fits K x := hM.row _ (getD_mem (d := []) (by rw [hM.len]; exact hi))
theorem MI.fit {h w K : Nat} {M : List (List Int)} (hM : MI h w K M) {i j : Nat} (hi : i < h) (hj : j < w) : Fits K ((M.getD i []).getD j 0) := (hM.get hi).2 _ (getD_mem (d := 0) (by rw [(hM.get hi).1]; exact hj))
theorem MI.mono {h w K L : Nat} {M : List (List Int)} (hM : MI h w K M) (hl : K ≤ L) : MI h w L M := ⟨hM.len, fun r hr => ⟨(hM.row r hr).1, fun x hx => ((hM.row r hr).2 x hx).mono hl⟩⟩
theorem MI.set {h w K : Nat} {M : List (List Int)} (hM : MI h w K M) {i : Nat} {r : List Int} (hr : r.length = w ∧ ∀ x ∈ r, Fits K x) : MI h w K (M.set i r) :=
  ⟨by rw [List.length_set]; exact hM.len, fun q hq => by rcases List.mem_or_eq_of_mem_set hq with e | e; exact hM.row q e; exact e ▸ hr⟩
def mI (w : Nat) (M : List (List Int)) : V := .im (imR w (rI M)) M.length
def mat (w : Nat) (M : List (List Int)) : V := .ag [.sc (.int .i64 M.length), .sc (.int .i64 w), .im (imR w (rI M)) M.length]
theorem imI_len (w : Nat) (M : List (List Int)) : (imR w (rI M)).length = M.length := by simp [imR, rI]
theorem imI_get {w i : Nat} {M : List (List Int)} (h : i < M.length) : (imR w (rI M))[i]? = some (.im (ivR (M.getD i [])) w) := by
  unfold imR rI
  rw [List.getElem?_map, List.getElem?_map, getD_get' (d := []) h]; rfl
theorem rI_rows {h w K : Nat} {M : List (List Int)} (hM : MI h w K M) : ∀ r ∈ rI M, r.length = w * 2 ∧ r.all clo = true := by
  intro r hr
  obtain ⟨q, hq, rfl⟩ := List.mem_map.1 hr
  refine ⟨?_, ivR_clo q⟩
  rw [ivR_len, (hM.row q hq).1, Nat.mul_comm]
def swapI (M : List (List Int)) (i j : Nat) : List (List Int) := (M.set i (M.getD j [])).set j (M.getD i [])
def negI (r : List Int) : List Int := r.map fun x => -x
def addI (a b : List Int) (k : Int) : List Int := a.mapIdx fun c x => x + k * b.getD c 0
def actO (M : List (List Int)) (o : OpL) : List (List Int) :=
  if o.kd = 1 then swapI M o.i o.j else if o.kd = 2 then M.set o.i (negI (M.getD o.i [])) else M.set o.i (addI (M.getD o.i []) (M.getD o.j []) o.k)
theorem negI_len (r : List Int) : (negI r).length = r.length := by simp [negI]
theorem addI_len (a b : List Int) (k : Int) : (addI a b k).length = a.length := by simp [addI]
theorem negI_get {r : List Int} {c : Nat} (h : c < r.length) : (negI r).getD c 0 = -(r.getD c 0) := by
  unfold negI
  rw [List.getD_eq_getElem?_getD, List.getElem?_map, getD_get' (d := 0) h]; rfl
theorem addI_get {a b : List Int} {k : Int} {c : Nat} (h : c < a.length) : (addI a b k).getD c 0 = a.getD c 0 + k * b.getD c 0 := by
  unfold addI
  rw [List.getD_eq_getElem?_getD, List.getElem?_mapIdx, getD_get' (d := 0) h]; rfl
theorem swapI_get {M : List (List Int)} {i j : Nat} (hi : i < M.length) (hj : j < M.length) (k : Nat) : (swapI M i j).getD k [] = if k = j then M.getD i [] else if k = i then M.getD j [] else M.getD k [] := by
  unfold swapI
  rw [getD_set (by simpa using hj), getD_set hi]
theorem swapI_len (M : List (List Int)) (i j : Nat) : (swapI M i j).length = M.length := by simp [swapI]
theorem actO_len (M : List (List Int)) (o : OpL) : (actO M o).length = M.length := by
  unfold actO
  split
  · exact swapI_len _ _ _
  · split <;> exact List.length_set
theorem fits_add {K : Nat} {x y k : Int} (hx : Fits K x) (hy : Fits K y) (hk : Fits 1 k) : Fits (K + 2) (x + k * y) := by
  unfold Fits at *
  have h1 := Int.natAbs_add_le x (k * y)
  rw [Int.natAbs_mul] at h1
  have h2 : k.natAbs * y.natAbs ≤ 4294967296 ^ 1 * 4294967296 ^ K := Nat.mul_le_mul (Nat.le_of_lt hk) (Nat.le_of_lt hy)
  have e : 4294967296 ^ (K + 2) = 4294967296 * 4294967296 * 4294967296 ^ K := by rw [Nat.pow_add]; omega
  have h3 : 0 < 4294967296 ^ K := Nat.pow_pos (by omega)
  rw [e]
  generalize 4294967296 ^ K = T at *
  omega
theorem MI.act {h w K : Nat} {M : List (List Int)} (hM : MI h w K M) {o : OpL} (ho : OkOp h o) : MI h w (K + 2) (actO M o) := by
  have hM2 := hM.mono (Nat.le_add_right K 2)
  have gi := hM.get ho.i
  unfold actO
  split
  · rename_i h1
    have hj : o.j < h := by rcases ho.c with ⟨_, hj, _⟩ | ⟨e, _⟩ | ⟨e, _⟩ <;> omega
    exact (hM2.set (hM2.get hj)).set (hM2.get ho.i)
  · split
    · refine hM2.set ⟨by rw [negI_len]; exact gi.1, fun x hx => ?_⟩
      obtain ⟨y, hy, rfl⟩ := List.mem_map.1 hx
      have := (hM2.get ho.i).2 y hy
      unfold Fits at *
      rwa [Int.natAbs_neg]
    · rename_i h1 h2
      have hj : o.j < h := by rcases ho.c with ⟨e, _⟩ | ⟨e, _⟩ | ⟨_, hj, _⟩ <;> omega
      refine hM2.set ⟨by rw [addI_len]; exact gi.1, fun x hx => ?_⟩
      obtain ⟨c, hc, rfl⟩ := List.mem_iff_getElem.1 hx
      rw [addI_len] at hc
      have e := addI_get (a := M.getD o.i []) (b := M.getD o.j []) (k := o.k) hc
      rw [List.getD_eq_getElem?_getD, List.getElem?_eq_getElem (by rw [addI_len]; exact hc)] at e
      simp only [Option.getD_some] at e
      rw [e]
      exact fits_add (hM.fit ho.i (by omega)) (hM.fit hj (by omega)) ho.k
def actsO : List (List Int) → List OpL → List (List Int)
  | M, [] => M
  | M, o :: l => actsO (actO M o) l
end Go.Proofs.Ytfhcmibgpddggaa
namespace Go.Proofs.Ytfhcmibgpddggaa
open Go.RowKit
theorem cloneI_s (r : List Int) (w nx : Nat) (hr : r.length = w) (hw : w ≤ 1000000) : Inl Try.prog 60 [.im (ivR r) w] [] nx (.sl nx 0 w 2 none) [(nx, ⟨54, ivR r, false⟩)] (nx + 1) := by
  have hl := ivR_len r
  rw [hr] at hl
  have h1 := ivR_one r
  have h2 : (ivR r).take (w * 2) = ivR r := List.take_of_length_le (by omega)
  have e2 : 2 * w = w * 2 := Nat.mul_comm _ _
  rw [e2] at hl
  refine Inl.run Try.func60 rfl Try.ntmps60 (by simp) (by simp (disch := omega) only [go_sem]; rfl) fun B hB => ?_
  by_cases h0 : w = 0
  · subst h0
    have hrn : r = [] := List.eq_nil_of_length_eq_zero hr
    subst hrn
    (repeat (first | (first | refine DO.nilC (by kernel_rfl) ?_ | refine DO.nil (by kernel_rfl) ?_) | (with_reducible first | apply oz1 | apply oz2 | apply oz3 | apply oz4 | apply oz5 | apply oz6 | apply oz7 | apply oz8 | apply oz9 | apply ozb | apply ozc | apply oze | apply ozf | apply ozg | apply ozh | apply ozi | apply ozj | apply ozk | refine ozd (by decide) ?_) | ((first | apply SO.call | apply DO.call); (iterate 3 (focus (simp (disch := omega) only [go_sem, ↓reduceIte, zn1, zn2, zn3, zn4, zn5, zn6, reduceCtorEq, zn7, zi1, zi2, if_pos, if_neg] <;> rfl))); (first | apply SCall.ofX | apply DCall.ofX); (focus (first | assumption)); (focus (simp (disch := omega) only [go_sem, ↓reduceIte, zn1, zn2, zn3, zn4, zn5, zn6, reduceCtorEq, zn7, zi1, zi2, if_pos, if_neg] <;> rfl))) | ((with_reducible first | apply SC.condB | apply SC.region | apply SO.run | apply DO.run); (focus (simp (disch := omega) only [go_sem, ↓reduceIte, zn2, reduceCtorEq] <;> rfl)); (first | refine pickT ?_ | refine pickF ?_ | fail_if_success with_reducible refine pickA ?_)) | ((with_reducible refine SC.draw Tab.mixed ?_ ?_); (focus (first | rfl | simp (disch := omega) only [go_sem, ↓reduceIte, zn1, zn2, zn3, zn4, zn5, zn6, reduceCtorEq, zn7, zi1, zi2, if_pos, if_neg]))) | (with_reducible apply SC.ops)))
    refine SO.nilq (by simp (disch := omega) only [go_sem] <;> rfl) (by simp (disch := omega) only [go_sem, ↓reduceIte] <;> rfl) (by simp (disch := omega) only [go_sem] <;> rfl) (by simp (disch := omega) only [go_sem] <;> rfl) fun b => ?_
    cases b
    · (repeat (first | (first | refine DO.nilC (by kernel_rfl) ?_ | refine DO.nil (by kernel_rfl) ?_) | (with_reducible first | apply oz1 | apply oz2 | apply oz3 | apply oz4 | apply oz5 | apply oz6 | apply oz7 | apply oz8 | apply oz9 | apply ozb | apply ozc | apply oze | apply ozf | apply ozg | apply ozh | apply ozi | apply ozj | apply ozk | refine ozd (by decide) ?_) | ((first | apply SO.call | apply DO.call); (iterate 3 (focus (simp (disch := omega) only [go_sem, ↓reduceIte, zn1, zn2, zn3, zn4, zn5, zn6, reduceCtorEq, zn7, zi1, zi2, if_pos, if_neg] <;> rfl))); (first | apply SCall.ofX | apply DCall.ofX); (focus (first | assumption)); (focus (simp (disch := omega) only [go_sem, ↓reduceIte, zn1, zn2, zn3, zn4, zn5, zn6, reduceCtorEq, zn7, zi1, zi2, if_pos, if_neg] <;> rfl))) | ((with_reducible first | apply SC.condB | apply SC.region | apply SO.run | apply DO.run); (focus (simp (disch := omega) only [go_sem, ↓reduceIte, zn1, zn2, zn3, zn4, reduceCtorEq, if_pos] <;> rfl)); (first | refine pickT ?_ | refine pickF ?_ | fail_if_success with_reducible refine pickA ?_)) | ((with_reducible refine SC.draw Tab.mixed ?_ ?_); (focus (first | rfl | simp (disch := omega) only [go_sem, ↓reduceIte, zn1, zn2, zn3, zn4, zn5, zn6, reduceCtorEq, zn7, zi1, zi2, if_pos, if_neg]))) | (with_reducible apply SC.ops)))
      exact retI_ret Try.results60 (by simp (disch := omega) only [go_sem, ↓reduceIte] <;> rfl) (Le.newSlice hB (Nat.le_succ _) (by simp (disch := omega) only [go_sem, ↓reduceIte] <;> rfl) (by simp (disch := omega) only [go_sem, ↓reduceIte] <;> rfl) rfl)
    · (repeat (first | (first | refine DO.nilC (by kernel_rfl) ?_ | refine DO.nil (by kernel_rfl) ?_) | (with_reducible first | apply oz1 | apply oz2 | apply oz3 | apply oz4 | apply oz5 | apply oz6 | apply oz7 | apply oz8 | apply oz9 | apply ozb | apply ozc | apply oze | apply ozf | apply ozg | apply ozh | apply ozi | apply ozj | apply ozk | refine ozd (by decide) ?_) | ((first | apply SO.call | apply DO.call); (iterate 3 (focus (simp (disch := omega) only [go_sem, ↓reduceIte, zn1, zn2, zn3, zn4, zn5, zn6, reduceCtorEq, zn7, zi1, zi2, if_pos, if_neg] <;> rfl))); (first | apply SCall.ofX | apply DCall.ofX); (focus (first | assumption)); (focus (simp (disch := omega) only [go_sem, ↓reduceIte, zn1, zn2, zn3, zn4, zn5, zn6, reduceCtorEq, zn7, zi1, zi2, if_pos, if_neg] <;> rfl))) | ((with_reducible first | apply SC.condB | apply SC.region | apply SO.run | apply DO.run); (focus (simp (disch := omega) only [go_sem, ↓reduceIte] <;> rfl)); (first | refine pickT ?_ | refine pickF ?_ | fail_if_success with_reducible refine pickA ?_)) | ((with_reducible refine SC.draw Tab.mixed ?_ ?_); (focus (first | rfl | simp (disch := omega) only [go_sem, ↓reduceIte, zn1, zn2, zn3, zn4, zn5, zn6, reduceCtorEq, zn7, zi1, zi2, if_pos, if_neg]))) | (with_reducible apply SC.ops)))
      exact retI_ret Try.results60 (by simp (disch := omega) only [go_sem, ↓reduceIte] <;> rfl) (Le.nilSlice hB (by simp (disch := omega) only [go_sem, ↓reduceIte] <;> rfl))
  · (repeat (first | (first | refine DO.nilC (by kernel_rfl) ?_ | refine DO.nil (by kernel_rfl) ?_) | (with_reducible first | apply oz1 | apply oz2 | apply oz3 | apply oz4 | apply oz5 | apply oz6 | apply oz7 | apply oz8 | apply oz9 | apply ozb | apply ozc | apply oze | apply ozf | apply ozg | apply ozh | apply ozi | apply ozj | apply ozk | refine ozd (by decide) ?_) | ((first | apply SO.call | apply DO.call); (iterate 3 (focus (simp (disch := omega) only [go_sem, ↓reduceIte, zn1, zn2, zn3, zn4, zn5, zn6, reduceCtorEq, zn7, zi1, zi2, if_pos, if_neg, hl, h1, h2] <;> rfl))); (first | apply SCall.ofX | apply DCall.ofX); (focus (first | assumption)); (focus (simp (disch := omega) only [go_sem, ↓reduceIte, zn1, zn2, zn3, zn4, zn5, zn6, reduceCtorEq, zn7, zi1, zi2, if_pos, if_neg, hl, h1, h2] <;> rfl))) | ((with_reducible first | apply SC.condB | apply SC.region | apply SO.run | apply DO.run); (focus (simp (disch := omega) only [go_sem, ↓reduceIte, zn1, zn2, zn3, zn4, reduceCtorEq, if_pos, hl, h1] <;> rfl)); (first | refine pickT ?_ | refine pickF ?_ | fail_if_success with_reducible refine pickA ?_)) | ((with_reducible refine SC.draw Tab.mixed ?_ ?_); (focus (first | rfl | simp (disch := omega) only [go_sem, ↓reduceIte, zn1, zn2, zn3, zn4, zn5, zn6, reduceCtorEq, zn7, zi1, zi2, if_pos, if_neg, hl, h1, h2]))) | (with_reducible apply SC.ops)))
    exact retI_ret Try.results60 (by simp (disch := omega) only [go_sem, ↓reduceIte] <;> rfl) (Le.newSlice hB (Nat.le_succ _) (by simp (disch := omega) only [go_sem, ↓reduceIte] <;> rfl) (by simp (disch := omega) only [go_sem, ↓reduceIte] <;> rfl) (ivR_clo r))
def RowsI (w : Nat) (M : List (List Int)) (nx : Nat) (x : V) (hp' : List (Nat × Blk)) (nx' : Nat) : Prop :=
  ∃ o ids, RowsOk o ids M.length nx nx' ∧ x = .sl o 0 M.length 1 none ∧ hp' = (o, ⟨72, slR 2 w ids, false⟩) :: rowsH 54 ids (rI M)
set_option maxHeartbeats 1000000 in
theorem icopied_s {h w K : Nat} {M : List (List Int)} (hM : MI h w K M) (nx : Nat) (hn : h ≤ 1000000) (hw : w ≤ 1000000) : InlQ Try.prog 34 [mI w M] [] nx (RowsI w M nx) := by
  have hl := hM.len
  have gl := imI_len w M
  unfold mI
  refine InlQ.run Try.func34 rfl Try.ntmps34 (by simp) (by simp (disch := omega) only [go_sem]; rfl) fun B hB => ?_
  (repeat (first | (first | refine DO.nilC (by kernel_rfl) ?_ | refine DO.nil (by kernel_rfl) ?_) | (with_reducible first | apply oz1 | apply oz2 | apply oz3 | apply oz4 | apply oz5 | apply oz6 | apply oz7 | apply oz8 | apply oz9 | apply ozb | apply ozc | apply oze | apply ozf | apply ozg | apply ozh | apply ozi | apply ozj | apply ozk | refine ozd (by decide) ?_) | ((first | apply SO.call | apply DO.call); (iterate 3 (focus (simp (disch := omega) only [go_sem, ↓reduceIte, zn1, zn2, zn3, zn4, zn5, zn6, reduceCtorEq, zn7, zi1, zi2, if_pos, if_neg] <;> rfl))); (first | apply SCall.ofX | apply DCall.ofX); (focus (first | assumption)); (focus (simp (disch := omega) only [go_sem, ↓reduceIte, zn1, zn2, zn3, zn4, zn5, zn6, reduceCtorEq, zn7, zi1, zi2, if_pos, if_neg] <;> rfl))) | ((with_reducible first | apply SC.condB | apply SC.region | apply SO.run | apply DO.run); (focus (simp (disch := omega) only [go_sem, ↓reduceIte, reduceCtorEq, if_pos] <;> rfl)); (first | refine pickT ?_ | refine pickF ?_ | fail_if_success with_reducible refine pickA ?_)) | ((with_reducible refine SC.draw Tab.mixed ?_ ?_); (focus (first | rfl | simp (disch := omega) only [go_sem, ↓reduceIte, zn1, zn2, zn3, zn4, zn5, zn6, reduceCtorEq, zn7, zi1, zi2, if_pos, if_neg]))) | (with_reducible apply SC.ops)))
  refine SC.loop (fun x : Nat × List Nat => ⟨[(3, .sl nx 0 M.length 1 (some M.length)), (9, .im (imR w (rI M)) M.length), (10, .sc (.int .i64 M.length)), (11, .sc (.int .i64 x.1))], (nx, ⟨72, slR 2 w x.2 ++ List.replicate (h - x.1) (.sc (.slice none 0 0)), false⟩) :: rowsH 54 x.2 (rI (M.take x.1)), nx + 1 + x.1, 23⟩)
    (fun x => x.1 ≤ h ∧ RowsOk nx x.2 x.1 nx (nx + 1 + x.1)) (fun x => h - x.1) (0, []) ?_ ?_ ?_
  · rw [← hl]
    (refine Le.slots ?_ ?_ ?_ <;> (repeat' (first | (exact fun _ _ h => h) | exact Nat.le_refl _ | exact leSl_nil | refine leSl_cons (by simp (disch := omega) only [go_sem, ↓reduceIte, zn1] <;> rfl) ?_ ?_ | exact VLe.junk _ | exact VLe.refl rfl | exact VLe.nil_sl _ _ _ | exact VLe.int (by first | rfl | omega | (dsimp only; omega)) | exact VLe.bool rfl | exact VLe.sl rfl (by first | rfl | omega) | exact VLe.cap rfl (by first | rfl | omega) | exact VLe.im rfl rfl | omega | (refine fun id k h => ?_; simp only [hget] at h ⊢; (repeat' (split at h)) <;> first | (cases h; done) | (simp (disch := omega) only [if_pos, if_neg]; exact h)))))
  · exact ⟨Nat.zero_le _, ⟨rfl, List.nodup_nil, by simp, by omega, by simp⟩⟩
  · rintro ⟨i, ids⟩ ⟨hi, hR⟩ K hK
    simp only at hi hR ⊢
    have hlt : ∀ j ∈ ids, j < nx + 1 + i := fun j hj => (hR.lt j hj).2
    by_cases hc : i < h
    · have q1 := decide_eq_true (p := (i : Int) < (M.length : Int)) (by omega)
      have g1 := imI_get (w := w) (M := M) (i := i) (by omega)
      have hr := hM.get hc
      have c1 := (cloneI_s (M.getD i []) w (nx + 1 + i) hr.1 hw).toQ
      have hts := take_snoc (d := []) (l := M) (i := i) (by omega)
      have hcl := ivR_clo (M.getD i [])
      have hcells : (slR 2 w ids ++ List.replicate (h - i) (V.sc (.slice none 0 0))).length = h := by simp [slR_len, hR.len]; omega
      have hset : (slR 2 w ids ++ List.replicate (h - i) (V.sc (.slice none 0 0))).set i (V.sl (nx + 1 + i) 0 w 2 none) = slR 2 w ids ++ V.sl (nx + 1 + i) 0 w 2 none :: List.replicate (h - (i + 1)) (V.sc (.slice none 0 0)) := by
        rw [List.set_append_right _ _ (by rw [slR_len, hR.len]; exact Nat.le_refl _), slR_len, hR.len, Nat.sub_self, show h - i = (h - (i + 1)) + 1 by omega, List.replicate_succ, List.set_cons_zero]
      generalize M.getD i [] = r at *
      generalize hC : slR 2 w ids ++ List.replicate (h - i) (V.sc (.slice none 0 0)) = C at *
      (repeat (first | (first | refine DO.nilC (by kernel_rfl) ?_ | refine DO.nil (by kernel_rfl) ?_) | (with_reducible first | apply oz1 | apply oz2 | apply oz3 | apply oz4 | apply oz5 | apply oz6 | apply oz7 | apply oz8 | apply oz9 | apply ozb | apply ozc | apply oze | apply ozf | apply ozg | apply ozh | apply ozi | apply ozj | apply ozk | refine ozd (by decide) ?_) | ((first | apply SO.call | apply DO.call); (iterate 3 (focus (simp (disch := omega) only [go_sem, ↓reduceIte] <;> rfl))); (first | apply SCall.ofX | apply DCall.ofX); (focus (first | assumption)); (focus (simp (disch := omega) only [go_sem, ↓reduceIte, zn1, zn2, zn3, zn4, zn5, zn6, reduceCtorEq, zn7, zi1, zi2, if_pos, if_neg, q1, gl, g1, List.getElem?_drop] <;> rfl))) | ((with_reducible first | apply SC.condB | apply SC.region | apply SO.run | apply DO.run); (focus (simp (disch := omega) only [go_sem, ↓reduceIte, zn1, if_pos, q1, gl, g1, List.getElem?_drop] <;> rfl)); (first | refine pickT ?_ | refine pickF ?_ | fail_if_success with_reducible refine pickA ?_)) | ((with_reducible refine SC.draw Tab.mixed ?_ ?_); (focus (first | rfl | simp (disch := omega) only [go_sem, ↓reduceIte, zn1, zn2, zn3, zn4, zn5, zn6, reduceCtorEq, zn7, zi1, zi2, if_pos, if_neg, q1, gl, g1, List.getElem?_drop]))) | (with_reducible apply SC.ops)))
      refine SO.inlQ (by simp (disch := omega) only [go_sem] <;> rfl) Tab.go60 (by simp (disch := omega) only [go_sem, ↓reduceIte] <;> rfl) (by simp (disch := omega) only [go_sem] <;> rfl) (SInlQ.new c1 ?_ ?_ ?_)
      · exact klc (by omega) (klr hlt)
      · rintro x hp' nx' ⟨rfl, rfl, rfl⟩
        exact ⟨.sl (Nat.le_refl _), ⟨fun y hy => Only.clo (List.all_eq_true.1 hcl y hy), trivial⟩⟩
      · rintro x hp' nx' ⟨rfl, rfl, rfl⟩
        (repeat (first | (first | refine DO.nilC (by kernel_rfl) ?_ | refine DO.nil (by kernel_rfl) ?_) | (with_reducible first | apply oz1 | apply oz2 | apply oz3 | apply oz4 | apply oz5 | apply oz6 | apply oz7 | apply oz8 | apply oz9 | apply ozb | apply ozc | apply oze | apply ozf | apply ozg | apply ozh | apply ozi | apply ozj | apply ozk | refine ozd (by decide) ?_) | ((first | apply SO.call | apply DO.call); (iterate 3 (focus (simp (disch := omega) only [go_sem, ↓reduceIte, zn1, zn2, zn3, zn4, zn5, zn6, reduceCtorEq, zn7, zi1, zi2, if_pos, if_neg, hcells, hset] <;> rfl))); (first | apply SCall.ofX | apply DCall.ofX); (focus (first | assumption)); (focus (simp (disch := omega) only [go_sem, ↓reduceIte, zn1, zn2, zn3, zn4, zn5, zn6, reduceCtorEq, zn7, zi1, zi2, if_pos, if_neg, hcells, hset] <;> rfl))) | ((with_reducible first | apply SC.condB | apply SC.region | apply SO.run | apply DO.run); (focus (simp (disch := omega) only [go_sem, ↓reduceIte, zn1, if_pos, if_neg, hcells, hset] <;> rfl)); (first | refine pickT ?_ | refine pickF ?_ | fail_if_success with_reducible refine pickA ?_)) | ((with_reducible refine SC.draw Tab.mixed ?_ ?_); (focus (first | rfl | simp (disch := omega) only [go_sem, ↓reduceIte, zn1, zn2, zn3, zn4, zn5, zn6, reduceCtorEq, zn7, zi1, zi2, if_pos, if_neg, hcells, hset]))) | (with_reducible apply SC.ops)))
        refine hK _ (i + 1, ids ++ [nx + 1 + i]) ?_ ⟨by simp only; omega, ?_⟩ (by simp only; omega)
        · rw [hts]
          have e : rI (M.take i ++ [r]) = rI (M.take i) ++ [ivR r] := by simp [rI]
          simp only [e]
          refine Le.rowIn ⟨nx, hB, by omega⟩ (by omega) (fun j hj => by have := hlt j hj; omega) (by omega) (fun h => by have := hlt _ h; omega) ?_ hcl (rI_clo _) (fun x hx => List.eq_of_mem_replicate hx) ?_
          · rw [rI_len, hR.len, List.length_take]; omega
          · (repeat' (first | exact trivial | refine mapSl_cons (by simp (disch := omega) only [go_sem, ↓reduceIte, zn1] <;> rfl) ?_ ?_ | exact VMap.junk _ | exact VMap.sc _ | exact VMap.clo rfl | exact VMap.sl rfl (by omega) | exact VMap.cap rfl (by omega) | exact VMap.pt rfl (by omega) | exact VMap.nil_sl _ _ _ | exact VMap.int (by first | rfl | omega | (dsimp only; omega))))
        · refine ⟨by simp [hR.len], ?_, fun j hj => ?_, by omega, ?_⟩
          · rw [List.nodup_append]
            exact ⟨hR.nod, by simp, fun a ha b hb => by simp at hb; subst hb; have := hlt a ha; omega⟩
          · rcases List.mem_append.1 hj with g | g
            · have := hR.lt j g; omega
            · simp at g; omega
          · intro h
            rcases List.mem_append.1 h with g | g
            · exact hR.o2 g
            · simp at g; omega
    · have q1 := decide_eq_false (p := (i : Int) < (M.length : Int)) (by omega)
      have hin : i = h := by omega
      subst hin
      (repeat (first | (first | refine DO.nilC (by kernel_rfl) ?_ | refine DO.nil (by kernel_rfl) ?_) | (with_reducible first | apply oz1 | apply oz2 | apply oz3 | apply oz4 | apply oz5 | apply oz6 | apply oz7 | apply oz8 | apply oz9 | apply ozb | apply ozc | apply oze | apply ozf | apply ozg | apply ozh | apply ozi | apply ozj | apply ozk | refine ozd (by decide) ?_) | ((first | apply SO.call | apply DO.call); (iterate 3 (focus (simp (disch := omega) only [go_sem, ↓reduceIte, zn1, zn2, zn3, zn4, zn5, zn6, reduceCtorEq, zn7, zi1, zi2, if_pos, if_neg, q1] <;> rfl))); (first | apply SCall.ofX | apply DCall.ofX); (focus (first | assumption)); (focus (simp (disch := omega) only [go_sem, ↓reduceIte, zn1, zn2, zn3, zn4, zn5, zn6, reduceCtorEq, zn7, zi1, zi2, if_pos, if_neg, q1] <;> rfl))) | ((with_reducible first | apply SC.condB | apply SC.region | apply SO.run | apply DO.run); (focus (simp (disch := omega) only [go_sem, ↓reduceIte, zn1, zn2, q1] <;> rfl)); (first | refine pickT ?_ | refine pickF ?_ | fail_if_success with_reducible refine pickA ?_)) | ((with_reducible refine SC.draw Tab.mixed ?_ ?_); (focus (first | rfl | simp (disch := omega) only [go_sem, ↓reduceIte, zn1, zn2, zn3, zn4, zn5, zn6, reduceCtorEq, zn7, zi1, zi2, if_pos, if_neg, q1]))) | (with_reducible apply SC.ops)))
      refine retIQ_ret (.sl nx 0 M.length 1 none) ((nx, ⟨72, slR 2 w ids, false⟩) :: rowsH 54 ids (rI M)) (nx + 1 + i) Try.results34 (by simp (disch := omega) only [go_sem, ↓reduceIte]; rfl) ⟨nx, ids, by rw [hl]; exact hR, rfl, rfl⟩ ?_
      rw [Nat.sub_self, List.take_of_length_le (by omega)]
      simp only [List.replicate_zero, List.append_nil]
      exact Le.slots (leSl_cons (by simp (disch := omega) only [go_sem, ↓reduceIte]; rfl) (VLe.cap rfl rfl) leSl_nil) (fun _ _ h => h) (by omega)
end Go.Proofs.Ytfhcmibgpddggaa
namespace Go.Proofs.Ytfhcmibgpddggaa
open Go.RowKit
def ActQ (w h o : Nat) (ids0 : List Nat) (M : List (List Int)) (nx : Nat) (x : V) (hp' : List (Nat × Blk)) (nx' : Nat) : Prop :=
  ∃ ids', Ids o ids0 ids' h nx ∧ x = .tu [] ∧ nx' = nx ∧ hp' = (o, ⟨72, slR 2 w ids', false⟩) :: rowsH 54 ids' (rI M)
theorem rowsI_swap {ty : TypeId} {ids : List Nat} {M : List (List Int)} {k q : Nat} (hn : ids.Nodup) (hl : ids.length = M.length) (hk : k < ids.length) (hq : q < ids.length) : ∀ id b, hget (rowsH ty (swapN ids k q) (rI (swapI M k q))) id = some b → hget (rowsH ty ids (rI M)) id = some b := by
  refine rows_perm hn (by rw [rI_len]; exact hl) fun i h1 h2 => ?_
  have h1' : i < ids.length := by simpa [swapN] using h1
  have e1 := swapN_get (ids := ids) hk hq i
  have e2 := swapI_get (M := M) (i := k) (j := q) (by omega) (by omega) i
  rw [rI_getD, e2]
  by_cases a : i = q
  · exact ⟨k, hk, by rw [e1, if_pos a], by rw [if_pos a, rI_getD]⟩
  · by_cases b : i = k
    · exact ⟨q, hq, by rw [e1, if_neg a, if_pos b], by rw [if_neg a, if_pos b, rI_getD]⟩
    · exact ⟨i, h1', by rw [e1, if_neg a, if_neg b], by rw [if_neg a, if_neg b, rI_getD]⟩
theorem VMap.tu0 {f : Nat → Nat} {D : Nat → Prop} : VMap f D (.tu []) (.tu []) := fun _ _ _ _ _ hx => by
  cases hx with
  | tu h1 h2 => exact .tu h1 fun i x u hx => by cases hx
def clS : V → Bool
  | .sc _ => true
  | x => clo x
theorem VMap.clS {f : Nat → Nat} {D : Nat → Prop} {x : V} (h : clS x = true) : VMap f D x x := by
  cases x <;> first | exact VMap.sc _ | exact VMap.clo h
theorem Le.rowsDown (pre : List (Nat × Blk)) {B : Base} {sl sl' : List (Nat × V)} {hp : List (Nat × Blk)} {o m z nx nx1 nt : Nat} {ty tr : TypeId} {ids : List Nat} {rs : List (List V)} (hpre : ∀ i k, hget pre i = some k → k.cs.all clS = true) (hB : ∃ m, B.Old m ∧ m ≤ nx) (ho : o < nx) (hi : ∀ i ∈ ids, i < nx) (hrc : ∀ r ∈ rs, r.all clo = true)
    (hs : ∀ id k, hget (pre ++ (o, (⟨ty, slR z m ids, false⟩ : Blk)) :: rowsH tr ids rs) id = some k → hget hp id = some k) (h1 : mapSl (fun i => i) (fun i => i < nx) sl sl') :
    Le B ⟨sl, hp, nx1, nt⟩ ⟨sl', pre ++ (o, ⟨ty, slR z m ids, false⟩) :: rowsH tr ids rs, nx, nt⟩ := by
  obtain ⟨m0, hB, hm0⟩ := hB
  refine Le.map (fun i => i) (fun i => i < nx) hB (fun i hi => ⟨by omega, rfl⟩) (fun i h => h) (fun i j _ _ e => e) h1 (fun i k' hk' hlt => ?_)
  rw [hs i k' hk']
  rw [hget_app] at hk'
  cases hp : hget pre i with
  | some q =>
    rw [hp] at hk'
    cases hk'
    exact ⟨_, rfl, rfl, rfl, fun j y hy => ⟨y, hy, VMap.clS (List.all_eq_true.1 (hpre i _ hp) y (List.mem_of_getElem? hy))⟩⟩
  | none =>
    rw [hp] at hk'
    simp only [hget] at hk'
    split at hk'
    · cases hk'
      refine ⟨_, rfl, rfl, rfl, fun j y hy => ⟨y, hy, ?_⟩⟩
      obtain ⟨q, hq, rfl⟩ := List.mem_map.1 (List.mem_of_getElem? hy)
      exact VMap.sl rfl (hi q hq)
    · obtain ⟨q, q1, q2, q3, rfl⟩ := rows_inv hk'
      exact BMap.clo (hrc _ (by rw [List.getD_eq_getElem?_getD, List.getElem?_eq_getElem q2]; exact List.getElem_mem q2))
theorem pre0 : ∀ i k, hget ([] : List (Nat × Blk)) i = some k → k.cs.all clS = true := fun i k h => by cases h
theorem pre1 {n : Nat} {b : Blk} (hb : b.cs.all clS = true) : ∀ i k, hget [(n, b)] i = some k → k.cs.all clS = true := fun i k h => by
  simp only [hget] at h
  split at h
  · cases h; exact hb
  · cases h
theorem less_new {n : Nat} {b : Blk} {r r' : List (Nat × Blk)} (h : ∀ id k, hget r' id = some k → hget r id = some k) (hn : ∀ id k, hget r' id = some k → id ≠ n) : ∀ id k, hget r' id = some k → hget ((n, b) :: r) id = some k := by
  intro id k hk
  simp only [hget]
  rw [if_neg (hn id k hk)]; exact h id k hk
theorem rows_lt {n : Nat} {o : Nat} {b : Blk} {tr : TypeId} {ids : List Nat} {rs : List (List V)} (ho : o < n) (hi : ∀ i ∈ ids, i < n) : ∀ id k, hget ((o, b) :: rowsH tr ids rs) id = some k → id < n := by
  intro id k hk
  simp only [hget] at hk
  split at hk
  · omega
  · obtain ⟨q, q1, q2, q3, rfl⟩ := rows_inv hk
    rw [← q3]; exact hi _ (getD_mem' q1)
set_option maxHeartbeats 4000000 in
set_option maxRecDepth 4000 in
theorem perfS_s {h w K o nx : Nat} {M : List (List Int)} {ids0 ids : List Nat} (hM : MI h w K M) (hI : Ids o ids0 ids h nx) {op : OpL} (hi : op.i < h) (hj : op.j < h) (hn : h ≤ 1000000) (hw : w ≤ 1000000) :
    InlQ Try.prog 61 [.sl o 0 h 1 none, .ag (opC op)] ((o, ⟨72, slR 2 w ids, false⟩) :: rowsH 54 ids (rI M)) nx (ActQ w h o ids0 (swapI M op.i op.j) nx) := by
  obtain ⟨kd, i, j, k⟩ := op
  simp only at hi hj
  unfold opC sv
  simp only
  have hl := hM.len
  have hidl := hI.len
  have ho := hI.o1
  have ho2 : o + 1 - nx = 0 := by omega
  have g1 := slR_len 2 w ids
  rw [hidl] at g1
  have gi := slR_get (z := 2) (m := w) (ids := ids) (k := i) (by omega)
  have gj := slR_get (z := 2) (m := w) (ids := ids) (k := j) (by omega)
  have hkl := klB_rows (ty := 54) (rs := rI M) (n := nx) (fun j hj => by have := hI.lt j hj; omega)
  have hkl2 := klB_rows (ty := 54) (rs := rI M) (n := nx + 1) (fun j hj => by have := hI.lt j hj; omega)
  have hsw : (ids.set i (ids.getD j 0)).set j (ids.getD i 0) = swapN ids i j := rfl
  refine InlQ.run Try.func61 rfl Try.ntmps61 (by simp) (by simp (disch := omega) only [go_sem, zn4]; rfl) fun B hB => ?_
  (repeat (first | refine DO.nilF (fun i => i + 1 - nx) (by simp (disch := omega) only [go_sem, List.map_cons, List.map_nil, Option.map_some, Option.map_none, Nat.add_sub_cancel_left, Nat.sub_eq_zero_of_le] <;> rfl) (by kernel_rfl) ?_ | (with_reducible first | apply oz1 | apply oz2 | apply oz3 | apply oz4 | apply oz5 | apply oz6 | apply oz7 | apply oz8 | apply oz9 | apply ozb | apply ozc | apply oze | apply ozf | apply ozg | apply ozh | apply ozi | apply ozj | apply ozk | refine ozd (by decide) ?_) | ((first | apply SO.call | apply DO.call); (iterate 3 (focus (simp (disch := omega) only [go_sem, ↓reduceIte, zn1, zn2, zn3, zn4, zn5, zn6, reduceCtorEq, zn7, zi1, zi2, if_pos, if_neg, g1, gi, gj, hkl, hkl2, slR_set, slR_len, List.length_set, hidl, hsw] <;> rfl))); (first | apply SCall.ofX | apply DCall.ofX); (focus (first | assumption)); (focus (simp (disch := omega) only [go_sem, ↓reduceIte, zn1, zn2, zn3, zn4, zn5, zn6, reduceCtorEq, zn7, zi1, zi2, if_pos, if_neg, g1, gi, gj, hkl, hkl2, slR_set, slR_len, List.length_set, hidl, hsw] <;> rfl))) | ((with_reducible first | apply SC.condB | apply SC.region | apply SO.run | apply DO.run); (focus (simp (disch := omega) only [go_sem, ↓reduceIte, zn1, zn2, reduceCtorEq, if_pos, if_neg, g1, gi, gj, slR_set, slR_len, List.length_set, hidl, hsw] <;> rfl)); (first | refine pickT ?_ | refine pickF ?_ | fail_if_success with_reducible refine pickA ?_)) | ((with_reducible refine SC.draw Tab.mixed ?_ ?_); (focus (first | rfl | simp (disch := omega) only [go_sem, ↓reduceIte, if_pos, hkl2]))) | (with_reducible apply SC.ops)))
  refine retIQ_normal (rs := []) (.tu []) ((o, ⟨72, slR 2 w (swapN ids i j), false⟩) :: rowsH 54 (swapN ids i j) (rI (swapI M i j))) nx Try.results61 rfl ⟨_, hI.swap hi hj, rfl, rfl, rfl⟩ ?_
  have hI2 := hI.swap hi hj
  refine Le.rowsDown [] pre0 ⟨nx, hB, Nat.le_refl _⟩ ho hI2.lt (rI_clo _) (less_new (less_cons (rowsI_swap hI.nod (by omega) (by omega) (by omega))) (fun id k hk => Nat.ne_of_lt (rows_lt ho hI2.lt id k hk))) ?_
  exact mapSl_cons rfl VMap.tu0 trivial
theorem setI_self {M : List (List Int)} {i : Nat} (h : i < M.length) : M.set i (M.getD i []) = M := by
  rw [List.getD_eq_getElem?_getD, List.getElem?_eq_getElem h]
  exact List.set_getElem_self h
def negPre (t : Nat) (r : List Int) : List Int := r.mapIdx fun c x => if c < t then -x else x
theorem negPre_len {t : Nat} {r : List Int} : (negPre t r).length = r.length := by simp [negPre]
theorem negPre_get {t c : Nat} {r : List Int} (h : c < r.length) : (negPre t r).getD c 0 = if c < t then -(r.getD c 0) else r.getD c 0 := by
  unfold negPre
  rw [List.getD_eq_getElem?_getD, List.getElem?_mapIdx, getD_get' (d := 0) h]; rfl
theorem ilist_ext {a b : List Int} (h : a.length = b.length) (hx : ∀ j, j < a.length → a.getD j 0 = b.getD j 0) : a = b := by
  refine List.ext_getElem h fun j h1 h2 => ?_
  have := hx j h1
  rw [List.getD_eq_getElem?_getD, List.getD_eq_getElem?_getD, List.getElem?_eq_getElem h1, List.getElem?_eq_getElem h2] at this
  simpa using this
theorem negPre_zero {r : List Int} : negPre 0 r = r := ilist_ext negPre_len fun j hj => by rw [negPre_get (by rw [negPre_len] at hj; exact hj), if_neg (by omega)]
theorem negPre_set {t : Nat} {r : List Int} (h : t < r.length) : (negPre t r).set t (-(r.getD t 0)) = negPre (t + 1) r := by
  refine ilist_ext (by rw [List.length_set, negPre_len, negPre_len]) fun j hj => ?_
  rw [List.length_set, negPre_len] at hj
  rw [getD_set (by rw [negPre_len]; exact h), negPre_get hj, negPre_get hj]
  by_cases e : j = t
  · subst e; rw [if_pos rfl, if_pos (by omega)]
  · rw [if_neg e]
    by_cases g : j < t
    · rw [if_pos g, if_pos (by omega)]
    · rw [if_neg g, if_neg (by omega)]
theorem negPre_end {w : Nat} {r : List Int} (h : r.length = w) : negPre w r = negI r := by
  refine ilist_ext (by rw [negPre_len, negI_len]) fun j hj => ?_
  rw [negPre_len] at hj
  rw [negPre_get hj, if_pos (by omega), negI_get hj]
set_option maxHeartbeats 8000000 in
set_option maxRecDepth 4000 in
theorem perfN_s {h w K o nx : Nat} {M : List (List Int)} {ids0 ids : List Nat} (hM : MI h w K M) (hK : K ≤ 1000000) (hI : Ids o ids0 ids h nx) {op : OpL} (hi : op.i < h) (hn : h ≤ 1000000) (hw : w ≤ 1000000) :
    InlQ Try.prog 62 [.sl o 0 h 1 none, .ag (opC op)] ((o, ⟨72, slR 2 w ids, false⟩) :: rowsH 54 ids (rI M)) nx (ActQ w h o ids0 (M.set op.i (negI (M.getD op.i []))) nx) := by
  obtain ⟨kd, i, j, k⟩ := op
  simp only at hi
  unfold opC sv
  simp only
  have hl := hM.len
  have hidl := hI.len
  have ho := hI.o1
  have g1 := slR_len 2 w ids
  rw [hidl] at g1
  have gi := slR_get (z := 2) (m := w) (ids := ids) (k := i) (by omega)
  have hr := hM.get hi
  have hfit := fun c hc => hM.fit hi (j := c) hc
  have hmem := getD_mem' (ids := ids) (k := i) (by omega)
  have hidk := hI.lt _ hmem
  have hne : ids.getD i 0 ≠ o := fun e => hI.o2 (by rw [← e]; exact hmem)
  have e0 : M.set i (negPre 0 (M.getD i [])) = M := by
    rw [negPre_zero]
    exact setI_self (by omega)
  refine InlQ.run Try.func62 rfl Try.ntmps62 (by simp) (by simp (disch := omega) only [go_sem, zn4]; rfl) fun B hB => ?_
  (repeat (first | refine DO.nilF (fun i => i + 1 - nx) (by simp (disch := omega) only [go_sem, ↓reduceIte, zn1, zn2, zn3, zn4, zn5, zn6, reduceCtorEq, zn7, zi1, zi2, if_pos, if_neg, List.map_cons, List.map_nil, Option.map_some, Option.map_none, Nat.add_sub_cancel_left, Nat.sub_eq_zero_of_le, Nat.add_assoc, zn4] <;> rfl) (by kernel_rfl) ?_ | (with_reducible first | apply oz1 | apply oz2 | apply oz3 | apply oz4 | apply oz5 | apply oz6 | apply oz7 | apply oz8 | apply oz9 | apply ozb | apply ozc | apply oze | apply ozf | apply ozg | apply ozh | apply ozi | apply ozj | apply ozk | refine ozd (by decide) ?_) | ((first | apply SO.call | apply DO.call); (iterate 3 (focus (simp (disch := omega) only [go_sem, ↓reduceIte, zn1, zn2, zn3, zn4, zn5, zn6, reduceCtorEq, zn7, zi1, zi2, if_pos, if_neg, g1, gi] <;> rfl))); (first | apply SCall.ofX | apply DCall.ofX); (focus (first | assumption)); (focus (simp (disch := omega) only [go_sem, ↓reduceIte, zn1, zn2, zn3, zn4, zn5, zn6, reduceCtorEq, zn7, zi1, zi2, if_pos, if_neg, g1, gi] <;> rfl))) | ((with_reducible first | apply SC.condB | apply SC.region | apply SO.run | apply DO.run); (focus (simp (disch := omega) only [go_sem, ↓reduceIte, zn1, reduceCtorEq, if_pos, if_neg, gi] <;> rfl)); (first | refine pickT ?_ | refine pickF ?_ | fail_if_success with_reducible refine pickA ?_)) | ((with_reducible refine SC.draw Tab.mixed ?_ ?_); (focus (first | rfl | simp (disch := omega) only [go_sem, ↓reduceIte, zn1, zn2, zn3, zn4, zn5, zn6, reduceCtorEq, zn7, zi1, zi2, if_pos, if_neg, g1, gi]))) | (with_reducible apply SC.ops)))
  refine SC.loop (fun t : Nat => ⟨[(0, .sl o 0 h 1 none), (3, .pt nx 0), (10, .sl (ids.getD i 0) 0 w 2 none), (11, .sc (.int .i64 w)), (12, .sc (.int .i64 t))], (nx, ⟨56, [.sc (.int .i64 kd), .sc (.int .i64 i), .sc (.int .i64 j), .sc (.bool (decide (k < 0))), .im (lv (limbsOf k.natAbs)) (limbsOf k.natAbs).length], false⟩) :: (o, ⟨72, slR 2 w ids, false⟩) :: rowsH 54 ids (rI (M.set i (negPre t (M.getD i [])))), nx + 1, 27⟩)
    (fun t => t ≤ w) (fun t => w - t) 0 ?_ ?_ ?_
  · rw [e0]
    (refine Le.slots ?_ ?_ ?_ <;> (repeat' (first | (exact fun _ _ h => h) | exact Nat.le_refl _ | exact leSl_nil | refine leSl_cons (by simp (disch := omega) only [go_sem, ↓reduceIte, zn1, reduceCtorEq] <;> rfl) ?_ ?_ | exact VLe.junk _ | exact VLe.refl rfl | exact VLe.nil_sl _ _ _ | exact VLe.int (by first | rfl | omega | (dsimp only; omega)) | exact VLe.bool rfl | exact VLe.sl rfl (by first | rfl | omega) | exact VLe.cap rfl (by first | rfl | omega) | exact VLe.im rfl rfl | omega | (refine fun id k h => ?_; simp only [hget] at h ⊢; (repeat' (split at h)) <;> first | (cases h; done) | (simp (disch := omega) only [if_pos, if_neg]; exact h)))))
  · exact Nat.zero_le _
  · intro t ht K2 hK2
    by_cases hc : t < w
    · have q1 := decide_eq_true (p := (t : Int) < (w : Int)) (by omega)
      have gR := rows_get (ty := 54) (rs := rI (M.set i (negPre t (M.getD i [])))) (k := i) hI.nod (by omega) (by rw [rI_len]; simp; omega)
      rw [rI_getD, getD_set (by omega), if_pos rfl] at gR
      have hf := hfit t hc
      have c1 := pneg_i _ K hf (by omega)
      have gl := ivR_len (negPre t (M.getD i []))
      rw [negPre_len, hr.1] at gl
      have gd := ivR_drop (l := negPre t (M.getD i [])) (i := t) (by rw [negPre_len]; omega)
      rw [negPre_get (by omega), if_neg (by omega)] at gd
      have gs := ivR_set (l := negPre t (M.getD i [])) (i := t) (-((M.getD i []).getD t 0)) (by rw [negPre_len]; omega)
      rw [negPre_set (by omega)] at gs
      have hrs := rows_set (ty := 54) (rs := rI (M.set i (negPre t (M.getD i [])))) (k := i) (r := ivR (negPre (t + 1) (M.getD i []))) hI.nod (by omega) (by rw [rI_len]; simp; omega)
      rw [rI_set, List.set_set] at hrs
      generalize (ivR (negPre t (M.getD i []))).drop ((t + 1) * 2) = D at *
      generalize hA : ivR (negPre t (M.getD i [])) = A at *
      generalize (M.getD i []).getD t 0 = x at *
      generalize hA' : ivR (negPre (t + 1) (M.getD i [])) = A' at *
      have hkl := klB_rows (ty := 54) (rs := rI (M.set i (negPre t (M.getD i [])))) (n := nx + 1) (fun j hj => by have := hI.lt j hj; omega)
      have hkl2 := klB_rows (ty := 54) (rs := rI (M.set i (negPre t (M.getD i [])))) (n := nx + 1 + 1) (fun j hj => by have := hI.lt j hj; omega)
      generalize hH : rowsH 54 ids (rI (M.set i (negPre t (M.getD i [])))) = H at *
      generalize ids.getD i 0 = idk at *
      unfold iv sv at c1
      unfold ivC sv at gd gs
      simp only [List.cons_append, List.nil_append] at gd
      have g2 : t * 2 < A.length := by omega
      (repeat (first | refine DO.nilF (fun i => i + 1 - nx) (by simp (disch := omega) only [go_sem, zn4, List.map_cons, List.map_nil, Option.map_some, Option.map_none, Nat.add_sub_cancel_left, Nat.sub_eq_zero_of_le, Nat.add_assoc, zn4] <;> rfl) (by kernel_rfl) ?_ | (with_reducible first | apply oz1 | apply oz2 | apply oz3 | apply oz4 | apply oz5 | apply oz6 | apply oz7 | apply oz8 | apply oz9 | apply ozb | apply ozc | apply oze | apply ozf | apply ozg | apply ozh | apply ozi | apply ozj | apply ozk | refine ozd (by decide) ?_) | ((first | apply SO.call | apply DO.call); (iterate 3 (focus (simp (disch := omega) only [go_sem, ↓reduceIte] <;> rfl))); (first | apply SCall.ofX | apply DCall.ofX); (focus (first | assumption)); (focus (simp (disch := omega) only [go_sem] <;> rfl))) | ((with_reducible first | apply SC.condB | apply SC.region | apply SO.run | apply DO.run); (focus (simp (disch := omega) only [go_sem, ↓reduceIte, zn1, zn2, zn3, zn4, reduceCtorEq, if_pos, if_neg, q1, gi, gR, gl, gd, gs, hrs] <;> rfl)); (first | refine pickT ?_ | refine pickF ?_ | fail_if_success with_reducible refine pickA ?_)) | ((with_reducible refine SC.draw Tab.mixed ?_ ?_); (focus (first | rfl | simp (disch := omega) only [go_sem, ↓reduceIte, if_pos, hkl2]))) | (with_reducible apply SC.ops)))
      refine hK2 _ (t + 1) ?_ (by omega) (by omega)
      refine Le.rowsDown [(nx, _)] (pre1 rfl) ⟨nx, hB, Nat.le_succ _⟩ (by omega) (fun c hc => by have := hI.lt c hc; omega) (rI_clo _) (fun id b hb => ?_) ?_
      · exact less_new (fun id b hb => hb) (fun id b hb => Nat.ne_of_lt (klc (Nat.lt_succ_self nx) (klc (Nat.lt_succ_of_lt ho) (klr fun c hc => Nat.lt_succ_of_lt (hI.lt c hc))) id b hb)) id b hb
      · (repeat' (first | exact trivial | refine mapSl_cons (by simp (disch := omega) only [go_sem, ↓reduceIte, zn1, reduceCtorEq] <;> rfl) ?_ ?_ | exact VMap.junk _ | exact VMap.sc _ | exact VMap.clo rfl | exact VMap.sl rfl (by omega) | exact VMap.cap rfl (by omega) | exact VMap.pt rfl (by omega) | exact VMap.nil_sl _ _ _ | exact VMap.int (by first | rfl | omega | (dsimp only; omega))))
    · have q1 := decide_eq_false (p := (t : Int) < (w : Int)) (by omega)
      have htw : w = t := by omega
      subst htw
      rw [negPre_end hr.1]
      (repeat (first | refine DO.nilF (fun i => i + 1 - nx) (by simp (disch := omega) only [go_sem, ↓reduceIte, zn1, zn2, zn3, zn4, zn5, zn6, reduceCtorEq, zn7, zi1, zi2, if_pos, if_neg, List.map_cons, List.map_nil, Option.map_some, Option.map_none, Nat.add_sub_cancel_left, Nat.sub_eq_zero_of_le, Nat.add_assoc, zn4] <;> rfl) (by kernel_rfl) ?_ | (with_reducible first | apply oz1 | apply oz2 | apply oz3 | apply oz4 | apply oz5 | apply oz6 | apply oz7 | apply oz8 | apply oz9 | apply ozb | apply ozc | apply oze | apply ozf | apply ozg | apply ozh | apply ozi | apply ozj | apply ozk | refine ozd (by decide) ?_) | ((first | apply SO.call | apply DO.call); (iterate 3 (focus (simp (disch := omega) only [go_sem, ↓reduceIte, zn1, zn2, zn3, zn4, zn5, zn6, reduceCtorEq, zn7, zi1, zi2, if_pos, if_neg, q1] <;> rfl))); (first | apply SCall.ofX | apply DCall.ofX); (focus (first | assumption)); (focus (simp (disch := omega) only [go_sem, ↓reduceIte, zn1, zn2, zn3, zn4, zn5, zn6, reduceCtorEq, zn7, zi1, zi2, if_pos, if_neg, q1] <;> rfl))) | ((with_reducible first | apply SC.condB | apply SC.region | apply SO.run | apply DO.run); (focus (simp (disch := omega) only [go_sem, ↓reduceIte, zn1, reduceCtorEq, q1] <;> rfl)); (first | refine pickT ?_ | refine pickF ?_ | fail_if_success with_reducible refine pickA ?_)) | ((with_reducible refine SC.draw Tab.mixed ?_ ?_); (focus (first | rfl | simp (disch := omega) only [go_sem, ↓reduceIte, zn1, zn2, zn3, zn4, zn5, zn6, reduceCtorEq, zn7, zi1, zi2, if_pos, if_neg, q1]))) | (with_reducible apply SC.ops)))
      refine retIQ_normal (rs := []) (.tu []) ((o, ⟨72, slR 2 w ids, false⟩) :: rowsH 54 ids (rI (M.set i (negI (M.getD i []))))) nx Try.results62 rfl ⟨_, hI, rfl, rfl, rfl⟩ ?_
      refine Le.rowsDown [] pre0 ⟨nx, hB, Nat.le_refl _⟩ ho hI.lt (rI_clo _) (less_new (fun id k hk => hk) (fun id k hk => Nat.ne_of_lt (rows_lt ho hI.lt id k hk))) ?_
      exact mapSl_cons rfl VMap.tu0 trivial
end Go.Proofs.Ytfhcmibgpddggaa
namespace Go.Proofs.Ytfhcmibgpddggaa
open Go.RowKit
def addPreI (t : Nat) (a b : List Int) (k : Int) : List Int := a.mapIdx fun c x => if c < t then x + k * b.getD c 0 else x
theorem addPreI_len {t : Nat} {a b : List Int} {k : Int} : (addPreI t a b k).length = a.length := by simp [addPreI]
theorem addPreI_get {t c : Nat} {a b : List Int} {k : Int} (h : c < a.length) : (addPreI t a b k).getD c 0 = if c < t then a.getD c 0 + k * b.getD c 0 else a.getD c 0 := by
  unfold addPreI
  rw [List.getD_eq_getElem?_getD, List.getElem?_mapIdx, getD_get' (d := 0) h]; rfl
theorem addPreI_zero {a b : List Int} {k : Int} : addPreI 0 a b k = a := ilist_ext addPreI_len fun j hj => by rw [addPreI_get (by rw [addPreI_len] at hj; exact hj), if_neg (by omega)]
theorem addPreI_set {t : Nat} {a b : List Int} {k : Int} (h : t < a.length) : (addPreI t a b k).set t (a.getD t 0 + k * b.getD t 0) = addPreI (t + 1) a b k := by
  refine ilist_ext (by rw [List.length_set, addPreI_len, addPreI_len]) fun j hj => ?_
  rw [List.length_set, addPreI_len] at hj
  rw [getD_set (by rw [addPreI_len]; exact h), addPreI_get hj, addPreI_get hj]
  by_cases e : j = t
  · subst e; rw [if_pos rfl, if_pos (by omega)]
  · rw [if_neg e]
    by_cases g : j < t
    · rw [if_pos g, if_pos (by omega)]
    · rw [if_neg g, if_neg (by omega)]
theorem addPreI_end {w : Nat} {a b : List Int} {k : Int} (h : a.length = w) : addPreI w a b k = addI a b k := by
  refine ilist_ext (by rw [addPreI_len, addI_len]) fun j hj => ?_
  rw [addPreI_len] at hj
  rw [addPreI_get hj, if_pos (by omega), addI_get hj]
theorem fits_mulK {K : Nat} {y k : Int} (hy : Fits K y) (hk : Fits 1 k) : Fits (K + 1) (k * y) := by
  unfold Fits at *
  rw [Int.natAbs_mul]
  have h3 : 0 < 4294967296 ^ K := Nat.pow_pos (by omega)
  have e : 4294967296 ^ (K + 1) = 4294967296 ^ 1 * 4294967296 ^ K := by rw [Nat.pow_add, Nat.mul_comm]
  rw [e]
  calc k.natAbs * y.natAbs ≤ k.natAbs * 4294967296 ^ K := Nat.mul_le_mul (Nat.le_refl _) (Nat.le_of_lt hy)
    _ < 4294967296 ^ 1 * 4294967296 ^ K := Nat.mul_lt_mul_of_pos_right hk h3
set_option maxHeartbeats 8000000 in
set_option maxRecDepth 4000 in
theorem perfA_s {h w K o nx : Nat} {M : List (List Int)} {ids0 ids : List Nat} (hM : MI h w K M) (hK : K ≤ 1000000) (hI : Ids o ids0 ids h nx) {op : OpL} (hi : op.i < h) (hj : op.j < h) (hij : op.i ≠ op.j) (hk : Fits 1 op.k) (hn : h ≤ 1000000) (hw : w ≤ 1000000) :
    InlQ Try.prog 63 [.sl o 0 h 1 none, .ag (opC op)] ((o, ⟨72, slR 2 w ids, false⟩) :: rowsH 54 ids (rI M)) nx (ActQ w h o ids0 (M.set op.i (addI (M.getD op.i []) (M.getD op.j []) op.k)) nx) := by
  obtain ⟨kd, i, j, k⟩ := op
  simp only at hi hj hij hk
  unfold opC sv
  simp only
  have hl := hM.len
  have hidl := hI.len
  have ho := hI.o1
  have g1 := slR_len 2 w ids
  rw [hidl] at g1
  have gi := slR_get (z := 2) (m := w) (ids := ids) (k := i) (by omega)
  have gj := slR_get (z := 2) (m := w) (ids := ids) (k := j) (by omega)
  have hr := hM.get hi
  have hrj := hM.get hj
  have hfitj := fun c hc => hM.fit hj (j := c) hc
  have hfit := fun c hc => hM.fit hi (j := c) hc
  have hmem := getD_mem' (ids := ids) (k := i) (by omega)
  have hidk := hI.lt _ hmem
  have hne : ids.getD i 0 ≠ o := fun e => hI.o2 (by rw [← e]; exact hmem)
  have hmemj := getD_mem' (ids := ids) (k := j) (by omega)
  have hidj := hI.lt _ hmemj
  have hnej : ids.getD j 0 ≠ o := fun e => hI.o2 (by rw [← e]; exact hmemj)
  have hneij : ids.getD i 0 ≠ ids.getD j 0 := fun e => hij (nodup_getD hI.nod (by omega) (by omega) e)
  have e0 : M.set i (addPreI 0 (M.getD i []) (M.getD j []) k) = M := by
    rw [addPreI_zero]
    exact setI_self (by omega)
  refine InlQ.run Try.func63 rfl Try.ntmps63 (by simp) (by simp (disch := omega) only [go_sem, zn4]; rfl) fun B hB => ?_
  (repeat (first | refine DO.nilF (fun i => i + 1 - nx) (by simp (disch := omega) only [go_sem, ↓reduceIte, zn1, zn2, zn3, zn4, zn5, zn6, reduceCtorEq, zn7, zi1, zi2, if_pos, if_neg, List.map_cons, List.map_nil, Option.map_some, Option.map_none, Nat.add_sub_cancel_left, Nat.sub_eq_zero_of_le, Nat.add_assoc, zn4] <;> rfl) (by kernel_rfl) ?_ | (with_reducible first | apply oz1 | apply oz2 | apply oz3 | apply oz4 | apply oz5 | apply oz6 | apply oz7 | apply oz8 | apply oz9 | apply ozb | apply ozc | apply oze | apply ozf | apply ozg | apply ozh | apply ozi | apply ozj | apply ozk | refine ozd (by decide) ?_) | ((first | apply SO.call | apply DO.call); (iterate 3 (focus (simp (disch := omega) only [go_sem, ↓reduceIte, zn1, zn2, zn3, zn4, zn5, zn6, reduceCtorEq, zn7, zi1, zi2, if_pos, if_neg, g1, gj] <;> rfl))); (first | apply SCall.ofX | apply DCall.ofX); (focus (first | assumption)); (focus (simp (disch := omega) only [go_sem, ↓reduceIte, zn1, zn2, zn3, zn4, zn5, zn6, reduceCtorEq, zn7, zi1, zi2, if_pos, if_neg, g1, gj] <;> rfl))) | ((with_reducible first | apply SC.condB | apply SC.region | apply SO.run | apply DO.run); (focus (simp (disch := omega) only [go_sem, ↓reduceIte, zn1, reduceCtorEq, if_pos, if_neg, gj] <;> rfl)); (first | refine pickT ?_ | refine pickF ?_ | fail_if_success with_reducible refine pickA ?_)) | ((with_reducible refine SC.draw Tab.mixed ?_ ?_); (focus (first | rfl | simp (disch := omega) only [go_sem, ↓reduceIte, zn1, zn2, zn3, zn4, zn5, zn6, reduceCtorEq, zn7, zi1, zi2, if_pos, if_neg, g1, gj]))) | (with_reducible apply SC.ops)))
  refine SC.loop (fun t : Nat => ⟨[(0, .sl o 0 h 1 none), (3, .pt nx 0), (10, .sl (ids.getD j 0) 0 w 2 none), (11, .sc (.int .i64 w)), (12, .sc (.int .i64 t))], (nx, ⟨56, [.sc (.int .i64 kd), .sc (.int .i64 i), .sc (.int .i64 j), .sc (.bool (decide (k < 0))), .im (lv (limbsOf k.natAbs)) (limbsOf k.natAbs).length], false⟩) :: (o, ⟨72, slR 2 w ids, false⟩) :: rowsH 54 ids (rI (M.set i (addPreI t (M.getD i []) (M.getD j []) k))), nx + 1, 38⟩)
    (fun t => t ≤ w) (fun t => w - t) 0 ?_ ?_ ?_
  · rw [e0]
    (refine Le.slots ?_ ?_ ?_ <;> (repeat' (first | (exact fun _ _ h => h) | exact Nat.le_refl _ | exact leSl_nil | refine leSl_cons (by simp (disch := omega) only [go_sem, ↓reduceIte, zn1, reduceCtorEq] <;> rfl) ?_ ?_ | exact VLe.junk _ | exact VLe.refl rfl | exact VLe.nil_sl _ _ _ | exact VLe.int (by first | rfl | omega | (dsimp only; omega)) | exact VLe.bool rfl | exact VLe.sl rfl (by first | rfl | omega) | exact VLe.cap rfl (by first | rfl | omega) | exact VLe.im rfl rfl | omega | (refine fun id k h => ?_; simp only [hget] at h ⊢; (repeat' (split at h)) <;> first | (cases h; done) | (simp (disch := omega) only [if_pos, if_neg]; exact h)))))
  · exact Nat.zero_le _
  · intro t ht K2 hK2
    by_cases hc : t < w
    · have q1 := decide_eq_true (p := (t : Int) < (w : Int)) (by omega)
      have gR := rows_get (ty := 54) (rs := rI (M.set i (addPreI t (M.getD i []) (M.getD j []) k))) (k := i) hI.nod (by omega) (by rw [rI_len]; simp; omega)
      rw [rI_getD, getD_set (by omega), if_pos rfl] at gR
      have hf := hfit t hc
      have gRj := rows_get (ty := 54) (rs := rI (M.set i (addPreI t (M.getD i []) (M.getD j []) k))) (k := j) hI.nod (by omega) (by rw [rI_len]; simp; omega)
      rw [rI_getD, getD_set (by omega), if_neg (fun e => hij e.symm)] at gRj
      have hfj := hfitj t hc
      have c1 := pmul_i k _ (K + 1) (hk.mono (by omega)) (hfj.mono (by omega)) (by omega)
      have c2 := padd_i _ _ (K + 1) (hf.mono (by omega)) (fits_mulK hfj hk) (by omega)
      have gdj := ivR_drop (l := M.getD j []) (i := t) (by omega)
      have glj := ivR_len (M.getD j [])
      rw [hrj.1] at glj
      have gl := ivR_len (addPreI t (M.getD i []) (M.getD j []) k)
      rw [addPreI_len, hr.1] at gl
      have gd := ivR_drop (l := addPreI t (M.getD i []) (M.getD j []) k) (i := t) (by rw [addPreI_len]; omega)
      rw [addPreI_get (by omega), if_neg (by omega)] at gd
      have gs := ivR_set (l := addPreI t (M.getD i []) (M.getD j []) k) (i := t) ((M.getD i []).getD t 0 + k * (M.getD j []).getD t 0) (by rw [addPreI_len]; omega)
      rw [addPreI_set (by omega)] at gs
      have hrs := rows_set (ty := 54) (rs := rI (M.set i (addPreI t (M.getD i []) (M.getD j []) k))) (k := i) (r := ivR (addPreI (t + 1) (M.getD i []) (M.getD j []) k)) hI.nod (by omega) (by rw [rI_len]; simp; omega)
      rw [rI_set, List.set_set] at hrs
      generalize (ivR (addPreI t (M.getD i []) (M.getD j []) k)).drop ((t + 1) * 2) = D at *
      generalize hA : ivR (addPreI t (M.getD i []) (M.getD j []) k) = A at *
      generalize (M.getD i []).getD t 0 = x at *
      generalize (ivR (M.getD j [])).drop ((t + 1) * 2) = Dj at *
      generalize hAj : ivR (M.getD j []) = Aj at *
      generalize (M.getD j []).getD t 0 = y at *
      generalize hA' : ivR (addPreI (t + 1) (M.getD i []) (M.getD j []) k) = A' at *
      have hkl := klB_rows (ty := 54) (rs := rI (M.set i (addPreI t (M.getD i []) (M.getD j []) k))) (n := nx + 1) (fun j hj => by have := hI.lt j hj; omega)
      have hkl2 := klB_rows (ty := 54) (rs := rI (M.set i (addPreI t (M.getD i []) (M.getD j []) k))) (n := nx + 1 + 1) (fun j hj => by have := hI.lt j hj; omega)
      generalize hH : rowsH 54 ids (rI (M.set i (addPreI t (M.getD i []) (M.getD j []) k))) = H at *
      generalize ids.getD i 0 = idk at *
      generalize ids.getD j 0 = idj at *
      unfold iv sv at c1 c2
      unfold ivC sv at gd gs gdj
      simp only [List.cons_append, List.nil_append] at gd gdj
      have g2j : t * 2 < Aj.length := by omega
      have g2 : t * 2 < A.length := by omega
      (repeat (first | refine DO.nilF (fun i => i + 1 - nx) (by simp (disch := omega) only [go_sem, zn4, List.map_cons, List.map_nil, Option.map_some, Option.map_none, Nat.add_sub_cancel_left, Nat.sub_eq_zero_of_le, Nat.add_assoc, zn4] <;> rfl) (by kernel_rfl) ?_ | (with_reducible first | apply oz1 | apply oz2 | apply oz3 | apply oz4 | apply oz5 | apply oz6 | apply oz7 | apply oz8 | apply oz9 | apply ozb | apply ozc | apply oze | apply ozf | apply ozg | apply ozh | apply ozi | apply ozj | apply ozk | refine ozd (by decide) ?_) | ((first | apply SO.call | apply DO.call); (iterate 3 (focus (simp (disch := omega) only [go_sem, ↓reduceIte, zn1] <;> rfl))); (first | apply SCall.ofX | apply DCall.ofX); (focus (first | assumption)); (focus (simp (disch := omega) only [go_sem] <;> rfl))) | ((with_reducible first | apply SC.condB | apply SC.region | apply SO.run | apply DO.run); (focus (simp (disch := omega) only [go_sem, ↓reduceIte, zn1, zn2, zn3, zn4, reduceCtorEq, if_pos, if_neg, q1, gi, gR, gRj, gl, glj, gd, gdj, gs, hrs] <;> rfl)); (first | refine pickT ?_ | refine pickF ?_ | fail_if_success with_reducible refine pickA ?_)) | ((with_reducible refine SC.draw Tab.mixed ?_ ?_); (focus (first | rfl | simp (disch := omega) only [go_sem, ↓reduceIte, if_pos, hkl2]))) | (with_reducible apply SC.ops)))
      refine hK2 _ (t + 1) ?_ (by omega) (by omega)
      refine Le.rowsDown [(nx, _)] (pre1 rfl) ⟨nx, hB, Nat.le_succ _⟩ (by omega) (fun c hc => by have := hI.lt c hc; omega) (rI_clo _) (fun id b hb => ?_) ?_
      · exact less_new (fun id b hb => hb) (fun id b hb => Nat.ne_of_lt (klc (Nat.lt_succ_self nx) (klc (Nat.lt_succ_of_lt ho) (klr fun c hc => Nat.lt_succ_of_lt (hI.lt c hc))) id b hb)) id b hb
      · (repeat' (first | exact trivial | refine mapSl_cons (by simp (disch := omega) only [go_sem, ↓reduceIte, zn1, reduceCtorEq] <;> rfl) ?_ ?_ | exact VMap.junk _ | exact VMap.sc _ | exact VMap.clo rfl | exact VMap.sl rfl (by omega) | exact VMap.cap rfl (by omega) | exact VMap.pt rfl (by omega) | exact VMap.nil_sl _ _ _ | exact VMap.int (by first | rfl | omega | (dsimp only; omega))))
    · have q1 := decide_eq_false (p := (t : Int) < (w : Int)) (by omega)
      have htw : w = t := by omega
      subst htw
      rw [addPreI_end hr.1]
      (repeat (first | refine DO.nilF (fun i => i + 1 - nx) (by simp (disch := omega) only [go_sem, ↓reduceIte, zn1, zn2, zn3, zn4, zn5, zn6, reduceCtorEq, zn7, zi1, zi2, if_pos, if_neg, List.map_cons, List.map_nil, Option.map_some, Option.map_none, Nat.add_sub_cancel_left, Nat.sub_eq_zero_of_le, Nat.add_assoc, zn4] <;> rfl) (by kernel_rfl) ?_ | (with_reducible first | apply oz1 | apply oz2 | apply oz3 | apply oz4 | apply oz5 | apply oz6 | apply oz7 | apply oz8 | apply oz9 | apply ozb | apply ozc | apply oze | apply ozf | apply ozg | apply ozh | apply ozi | apply ozj | apply ozk | refine ozd (by decide) ?_) | ((first | apply SO.call | apply DO.call); (iterate 3 (focus (simp (disch := omega) only [go_sem, ↓reduceIte, zn1, zn2, zn3, zn4, zn5, zn6, reduceCtorEq, zn7, zi1, zi2, if_pos, if_neg, q1] <;> rfl))); (first | apply SCall.ofX | apply DCall.ofX); (focus (first | assumption)); (focus (simp (disch := omega) only [go_sem, ↓reduceIte, zn1, zn2, zn3, zn4, zn5, zn6, reduceCtorEq, zn7, zi1, zi2, if_pos, if_neg, q1] <;> rfl))) | ((with_reducible first | apply SC.condB | apply SC.region | apply SO.run | apply DO.run); (focus (simp (disch := omega) only [go_sem, ↓reduceIte, zn1, reduceCtorEq, q1] <;> rfl)); (first | refine pickT ?_ | refine pickF ?_ | fail_if_success with_reducible refine pickA ?_)) | ((with_reducible refine SC.draw Tab.mixed ?_ ?_); (focus (first | rfl | simp (disch := omega) only [go_sem, ↓reduceIte, zn1, zn2, zn3, zn4, zn5, zn6, reduceCtorEq, zn7, zi1, zi2, if_pos, if_neg, q1]))) | (with_reducible apply SC.ops)))
      refine retIQ_normal (rs := []) (.tu []) ((o, ⟨72, slR 2 w ids, false⟩) :: rowsH 54 ids (rI (M.set i (addI (M.getD i []) (M.getD j []) k)))) nx Try.results63 rfl ⟨_, hI, rfl, rfl, rfl⟩ ?_
      refine Le.rowsDown [] pre0 ⟨nx, hB, Nat.le_refl _⟩ ho hI.lt (rI_clo _) (less_new (fun id k hk => hk) (fun id k hk => Nat.ne_of_lt (rows_lt ho hI.lt id k hk))) ?_
      exact mapSl_cons rfl VMap.tu0 trivial
end Go.Proofs.Ytfhcmibgpddggaa
