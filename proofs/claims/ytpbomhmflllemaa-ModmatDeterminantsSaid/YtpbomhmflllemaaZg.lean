/- Texts joined: Lv Lw Lx Ly Lz Maa Mab Mac. -/
import Derived.Test.YtpbomhmflllemaaZc
import Derived.Test.YtpbomhmflllemaaZd
import Derived.Test.YtpbomhmflllemaaZf
set_option linter.all false
/- The reference's rows: Times, Plus, Zero, Row. -/
namespace Go.Proofs.Ytpbomhmflllemaa
open Go.RowKit

theorem scale_snoc {p c k : Nat} {r : List Nat} (h : k < r.length) : nv (scaleL p c (r.take k)) ++ [V.sc (.int .u64 ((c * r.getD k 0 % p : Nat) : Int))] = nv (scaleL p c (r.take (k + 1))) := by
  rw [take_snoc (d := 0) h]; simp [nv, scaleL]
theorem scale_len {p c : Nat} {r : List Nat} : (nv (scaleL p c r)).length = r.length := by simp [nv, scaleL]
theorem addRw_snoc {p c k : Nat} {a b : List Nat} (h : k < a.length) (h2 : k < b.length) : nv (addRw p (a.take k) (b.take k) c) ++ [V.sc (.int .u64 (((a.getD k 0 + c * b.getD k 0 % p) % p : Nat) : Int))] = nv (addRw p (a.take (k + 1)) (b.take (k + 1)) c) := by
  rw [take_snoc (d := 0) h, take_snoc (d := 0) h2]
  unfold addRw nv
  rw [List.zipWith_append (by simp; omega), List.map_append]
  rfl
theorem addRw_len' {p c k : Nat} {a b : List Nat} (h : k ≤ a.length) (h2 : k ≤ b.length) : (nv (addRw p (a.take k) (b.take k) c)).length = k := by
  simp [nv, addRw]; omega
theorem Rw.le {p w : Nat} {r : List Nat} (h : Rw p w r) (k : Nat) : (r.take k).length = min k w := by rw [List.length_take, h.1]

theorem times_s {p c w : Nat} {r : List Nat} (hp : 0 < p) (hp2 : p ≤ 2147483648) (hc : c < p) (hr : Rw p w r) (hw : w ≤ 1000000) :
    Spec Try.prog 51 [.sc (.int .u64 p), .im (nv r) w, .sc (.int .u64 c)] (.im (nv (scaleL p c r)) w) := by
  have hl := hr.1
  refine Spec.run Try.func51 rfl Try.ntmps51 (by simp) (by simp (disch := omega) only [go_sem, Nat.reduceAdd]; rfl) fun B hB => ?_
  (repeat (first | (first | refine DO.nilC (by kernel_rfl) ?_ | refine DO.nil (by kernel_rfl) ?_) | (with_reducible first | apply oz1 | apply oz2 | apply oz3 | apply oz4 | apply oz5 | apply oz6 | apply oz7 | apply oz8 | apply oz9 | apply ozb | apply ozc | apply oze | apply ozf | apply ozg | apply ozh | apply ozi | apply ozj | apply ozk | refine ozd (by decide) ?_) | ((first | apply SO.call | apply DO.call); (iterate 3 (focus (simp (disch := omega) only [go_sem, ↓reduceIte, Nat.reduceEqDiff, Nat.reduceLT, Nat.reduceLeDiff, Nat.reduceAdd, Nat.reduceMul, Nat.reduceSub, reduceCtorEq, Nat.reduceBEq, Int.reduceToNat, Int.reducePow, if_pos, if_neg] <;> rfl))); (first | apply SCall.ofX | apply DCall.ofX); (focus (first | assumption)); (focus (simp (disch := omega) only [go_sem, ↓reduceIte, Nat.reduceEqDiff, Nat.reduceLT, Nat.reduceLeDiff, Nat.reduceAdd, Nat.reduceMul, Nat.reduceSub, reduceCtorEq, Nat.reduceBEq, Int.reduceToNat, Int.reducePow, if_pos, if_neg] <;> rfl))) | ((with_reducible first | apply SC.condB | apply SC.region | apply SO.run | apply DO.run); (focus (simp (disch := omega) only [go_sem, ↓reduceIte, Nat.reduceLeDiff] <;> rfl)); (first | refine pickT ?_ | refine pickF ?_ | fail_if_success with_reducible refine pickA ?_)) | ((with_reducible refine SC.draw Tab.mixed ?_ ?_); (focus (first | rfl | simp (disch := omega) only [go_sem, ↓reduceIte, Nat.reduceEqDiff, Nat.reduceLT, Nat.reduceLeDiff, Nat.reduceAdd, Nat.reduceMul, Nat.reduceSub, reduceCtorEq, Nat.reduceBEq, Int.reduceToNat, Int.reducePow, if_pos, if_neg]))) | (with_reducible apply SC.ops)))
  refine SC.loop (fun x : Nat × Nat × Nat => ⟨[(0, .sc (.int .u64 p)), (1, .im (nv r) w), (2, .sc (.int .u64 c)), (7, .sl x.2.1 0 x.1 1 none), (8, .sc (.int .i64 x.1))], [(x.2.1, ⟨26, nv (scaleL p c (r.take x.1)), false⟩)], x.2.2, 27⟩)
    (fun x => x.1 ≤ w ∧ x.2.1 < x.2.2) (fun x => w - x.1) (0, 0, 1) ?_ ?_ ?_
  · (refine Le.slots ?_ ?_ ?_ <;> (repeat' (first | (exact fun _ _ h => h) | exact Nat.le_refl _ | exact leSl_nil | refine leSl_cons (by simp (disch := omega) only [go_sem, ↓reduceIte, Nat.reduceEqDiff, reduceCtorEq] <;> rfl) ?_ ?_ | exact VLe.junk _ | exact VLe.refl rfl | exact VLe.nil_sl _ _ _ | exact VLe.int (by first | rfl | omega | (dsimp only; omega)) | exact VLe.bool rfl | exact VLe.sl rfl (by first | rfl | omega) | exact VLe.cap rfl (by first | rfl | omega) | exact VLe.im rfl rfl | omega | (refine fun id k h => ?_; simp only [hget] at h ⊢; (repeat' (split at h)) <;> first | (cases h; done) | (simp (disch := omega) only [if_pos, if_neg]; exact h)))))
  · exact ⟨Nat.zero_le _, by simp⟩
  · rintro ⟨k, q, nx⟩ ⟨hk, hq⟩ K hK
    simp only at hk hq ⊢
    have u1 := scale_len (p := p) (c := c) (r := r.take k)
    rw [hr.le, Nat.min_eq_left hk] at u1
    have u2 : (nv (scaleL p c (r.take k))).take k = nv (scaleL p c (r.take k)) := List.take_of_length_le (by omega)
    by_cases hkw : k < w
    · have q1 := decide_eq_true (p := (k : Int) < (w : Int)) (by omega)
      have g1 := nv_get (r := r) (j := k) (by omega)
      have g2 := nv_len r
      have c1 := rMul_s p c (r.getD k 0) hp hp2 hc (hr.lt hkw)
      have g3 := scale_snoc (p := p) (c := c) (r := r) (k := k) (by omega)
      generalize c * r.getD k 0 % p = z at *
      generalize r.getD k 0 = y at *
      generalize nv (scaleL p c (r.take k)) = R0 at *
      generalize hR1 : nv (scaleL p c (r.take (k + 1))) = R1 at *
      (repeat (first | (first | refine DO.nilC (by kernel_rfl) ?_ | refine DO.nil (by kernel_rfl) ?_) | (with_reducible first | apply oz1 | apply oz2 | apply oz3 | apply oz4 | apply oz5 | apply oz6 | apply oz7 | apply oz8 | apply oz9 | apply ozb | apply ozc | apply oze | apply ozf | apply ozg | apply ozh | apply ozi | apply ozj | apply ozk | refine ozd (by decide) ?_) | ((first | apply SO.call | apply DO.call); (iterate 3 (focus (simp (disch := omega) only [go_sem, ↓reduceIte, Nat.reduceEqDiff] <;> rfl))); (first | apply SCall.ofX | apply DCall.ofX); (focus (first | assumption)); (focus (simp (disch := omega) only [go_sem] <;> rfl))) | ((with_reducible first | apply SC.condB | apply SC.region | apply SO.run | apply DO.run); (focus (simp (disch := omega) only [go_sem, ↓reduceIte, Nat.reduceEqDiff, Nat.reduceLeDiff, reduceCtorEq, if_pos, if_neg, q1, g1, g2, g3, u1, u2, List.getElem?_drop] <;> rfl)); (first | refine pickT ?_ | refine pickF ?_ | fail_if_success with_reducible refine pickA ?_)) | ((with_reducible refine SC.draw Tab.mixed ?_ ?_); (focus (first | rfl | simp (disch := omega) only [go_sem, ↓reduceIte, Nat.reduceEqDiff, Nat.reduceLT, Nat.reduceLeDiff, Nat.reduceAdd, Nat.reduceMul, Nat.reduceSub, reduceCtorEq, Nat.reduceBEq, Int.reduceToNat, Int.reducePow, if_pos, if_neg, q1, g1, g2, g3, u1, u2, List.getElem?_drop]))) | (with_reducible apply SC.ops)))
      refine hK _ (k + 1, nx + 1, nx + 2) ?_ ⟨by simp only; omega, by simp only; omega⟩ (by simp only; omega)
      subst hR1
      (refine Le.slots ?_ ?_ ?_ <;> (repeat' (first | (exact fun _ _ h => h) | exact Nat.le_refl _ | exact leSl_nil | refine leSl_cons (by simp (disch := omega) only [go_sem, ↓reduceIte, Nat.reduceEqDiff, reduceCtorEq] <;> rfl) ?_ ?_ | exact VLe.junk _ | exact VLe.refl rfl | exact VLe.nil_sl _ _ _ | exact VLe.int (by first | rfl | omega | (dsimp only; omega)) | exact VLe.bool rfl | exact VLe.sl rfl (by first | rfl | omega) | exact VLe.cap rfl (by first | rfl | omega) | exact VLe.im rfl rfl | omega | (refine fun id k h => ?_; simp only [hget] at h ⊢; (repeat' (split at h)) <;> first | (cases h; done) | (simp (disch := omega) only [if_pos]; exact h)))))
    · have q1 := decide_eq_false (p := (k : Int) < (w : Int)) (by omega)
      have : k = w := by omega
      subst this
      rw [List.take_of_length_le (by omega : r.length ≤ k)] at u1 u2 ⊢
      have u3 := nv_clo (scaleL p c r)
      (repeat (first | (first | refine DO.nilC (by kernel_rfl) ?_ | refine DO.nil (by kernel_rfl) ?_) | (with_reducible first | apply oz1 | apply oz2 | apply oz3 | apply oz4 | apply oz5 | apply oz6 | apply oz7 | apply oz8 | apply oz9 | apply ozb | apply ozc | apply oze | apply ozf | apply ozg | apply ozh | apply ozi | apply ozj | apply ozk | refine ozd (by decide) ?_) | ((first | apply SO.call | apply DO.call); (iterate 3 (focus (simp (disch := omega) only [go_sem, ↓reduceIte, Nat.reduceEqDiff, Nat.reduceLT, Nat.reduceLeDiff, Nat.reduceAdd, Nat.reduceMul, Nat.reduceSub, reduceCtorEq, Nat.reduceBEq, Int.reduceToNat, Int.reducePow, if_pos, if_neg, q1, u1, u2, u3] <;> rfl))); (first | apply SCall.ofX | apply DCall.ofX); (focus (first | assumption)); (focus (simp (disch := omega) only [go_sem, ↓reduceIte, Nat.reduceEqDiff, Nat.reduceLT, Nat.reduceLeDiff, Nat.reduceAdd, Nat.reduceMul, Nat.reduceSub, reduceCtorEq, Nat.reduceBEq, Int.reduceToNat, Int.reducePow, if_pos, if_neg, q1, u1, u2, u3] <;> rfl))) | ((with_reducible first | apply SC.condB | apply SC.region | apply SO.run | apply DO.run); (focus (simp (disch := omega) only [go_sem, ↓reduceIte, Nat.reduceEqDiff, Nat.reduceLT, reduceCtorEq, q1] <;> rfl)); (first | refine pickT ?_ | refine pickF ?_ | fail_if_success with_reducible refine pickA ?_)) | ((with_reducible refine SC.draw Tab.mixed ?_ ?_); (focus (first | rfl | simp (disch := omega) only [go_sem, ↓reduceIte, Nat.reduceEqDiff, Nat.reduceLT, Nat.reduceLeDiff, Nat.reduceAdd, Nat.reduceMul, Nat.reduceSub, reduceCtorEq, Nat.reduceBEq, Int.reduceToNat, Int.reducePow, if_pos, if_neg, q1, u1, u2, u3]))) | (with_reducible apply SC.ops)))
      exact retQ_ret Try.results51 (by simp (disch := omega) only [go_sem, ↓reduceIte] <;> rfl) (by simp (disch := omega) only [go_sem, ↓reduceIte, if_pos, u1, u2, u3] <;> rfl) rfl

theorem rzero_s {w : Nat} {r : List Nat} (hl : r.length = w) (hw : w ≤ 1000000) : Spec Try.prog 24 [.im (nv r) w] (.sc (.bool (zeroL r))) := by
  refine Spec.run Try.func24 rfl Try.ntmps24 (by simp) (by simp (disch := omega) only [go_sem]; rfl) fun B hB => ?_
  (repeat (first | (first | refine DO.nilC (by kernel_rfl) ?_ | refine DO.nil (by kernel_rfl) ?_) | (with_reducible first | apply oz1 | apply oz2 | apply oz3 | apply oz4 | apply oz5 | apply oz6 | apply oz7 | apply oz8 | apply oz9 | apply ozb | apply ozc | apply oze | apply ozf | apply ozg | apply ozh | apply ozi | apply ozj | apply ozk | refine ozd (by decide) ?_) | ((first | apply SO.call | apply DO.call); (iterate 3 (focus (simp (disch := omega) only [go_sem, ↓reduceIte, Nat.reduceEqDiff, Nat.reduceLT, Nat.reduceLeDiff, Nat.reduceAdd, Nat.reduceMul, Nat.reduceSub, reduceCtorEq, Nat.reduceBEq, Int.reduceToNat, Int.reducePow, if_pos, if_neg] <;> rfl))); (first | apply SCall.ofX | apply DCall.ofX); (focus (first | assumption)); (focus (simp (disch := omega) only [go_sem, ↓reduceIte, Nat.reduceEqDiff, Nat.reduceLT, Nat.reduceLeDiff, Nat.reduceAdd, Nat.reduceMul, Nat.reduceSub, reduceCtorEq, Nat.reduceBEq, Int.reduceToNat, Int.reducePow, if_pos, if_neg] <;> rfl))) | ((with_reducible first | apply SC.condB | apply SC.region | apply SO.run | apply DO.run); (focus (simp (disch := omega) only [go_sem, ↓reduceIte] <;> rfl)); (first | refine pickT ?_ | refine pickF ?_ | fail_if_success with_reducible refine pickA ?_)) | ((with_reducible refine SC.draw Tab.mixed ?_ ?_); (focus (first | rfl | simp (disch := omega) only [go_sem, ↓reduceIte, Nat.reduceEqDiff, Nat.reduceLT, Nat.reduceLeDiff, Nat.reduceAdd, Nat.reduceMul, Nat.reduceSub, reduceCtorEq, Nat.reduceBEq, Int.reduceToNat, Int.reducePow, if_pos, if_neg]))) | (with_reducible apply SC.ops)))
  refine SC.loop (fun k : Nat => ⟨[(0, .im (nv r) w), (3, .sc (.int .i64 k))], [], 0, 15⟩)
    (fun k => k ≤ w ∧ ∀ j, j < k → r.getD j 0 = 0) (fun k => w - k) 0 ?_ ?_ ?_
  · (refine Le.of [] hB (by first | exact ⟨Nat.zero_le _, fun _ _ => Nat.zero_le _⟩ | (constructor <;> (try simp) <;> (try omega))) ?_ ?_ <;> (repeat' (first | exact leSl_nil | exact leHp_nil | refine leSl_cons (by simp (disch := omega) only [go_sem, ↓reduceIte, reduceCtorEq]; rfl) ?_ ?_ | refine leHp_cons (by simp (disch := omega) only [go_sem, ↓reduceIte, Nat.reduceEqDiff, Nat.reduceLT, Nat.reduceLeDiff, Nat.reduceAdd, Nat.reduceMul, Nat.reduceSub, reduceCtorEq, Nat.reduceBEq, Int.reduceToNat, Int.reducePow, if_pos, if_neg]; rfl) ?_ ?_ | exact VLe.junk _ | exact VLe.refl rfl | exact VLe.nil_sl _ _ _ | exact VLe.int (by first | rfl | omega | (dsimp only; omega)) | exact VLe.bool rfl | exact VLe.sl rfl (by first | rfl | omega | (dsimp only; omega) | (simp; done)) | exact VLe.cap rfl (by first | rfl | omega | (dsimp only; omega) | (simp; done)) | exact VLe.im rfl rfl | exact HLe.new rfl | exact HLe.same rfl (LLe.refl rfl) | refine HLe.same rfl ?_ | exact LLe.nil _ | exact LLe.refl rfl | refine LLe.cons ?_ ?_)))
  · exact ⟨Nat.zero_le _, fun j h => by omega⟩
  · rintro k ⟨hk, hI⟩ K hK
    by_cases hkw : k < w
    · have q1 := decide_eq_true (p := (k : Int) < (w : Int)) (by omega)
      have g1 := nv_get (r := r) (j := k) (by omega)
      have g2 := nv_len r
      by_cases h0 : r.getD k 0 = 0
      · have q2 : (((r.getD k 0 : Nat) : Int) != 0) = false := by rw [h0]; rfl
        (repeat (first | (first | refine DO.nilC (by kernel_rfl) ?_ | refine DO.nil (by kernel_rfl) ?_) | (with_reducible first | apply oz1 | apply oz2 | apply oz3 | apply oz4 | apply oz5 | apply oz6 | apply oz7 | apply oz8 | apply oz9 | apply ozb | apply ozc | apply oze | apply ozf | apply ozg | apply ozh | apply ozi | apply ozj | apply ozk | refine ozd (by decide) ?_) | ((first | apply SO.call | apply DO.call); (iterate 3 (focus (simp (disch := omega) only [go_sem, ↓reduceIte, Nat.reduceEqDiff, Nat.reduceLT, Nat.reduceLeDiff, Nat.reduceAdd, Nat.reduceMul, Nat.reduceSub, reduceCtorEq, Nat.reduceBEq, Int.reduceToNat, Int.reducePow, if_pos, if_neg, q1, g1, g2, q2, List.getElem?_drop] <;> rfl))); (first | apply SCall.ofX | apply DCall.ofX); (focus (first | assumption)); (focus (simp (disch := omega) only [go_sem, ↓reduceIte, Nat.reduceEqDiff, Nat.reduceLT, Nat.reduceLeDiff, Nat.reduceAdd, Nat.reduceMul, Nat.reduceSub, reduceCtorEq, Nat.reduceBEq, Int.reduceToNat, Int.reducePow, if_pos, if_neg, q1, g1, g2, q2, List.getElem?_drop] <;> rfl))) | ((with_reducible first | apply SC.condB | apply SC.region | apply SO.run | apply DO.run); (focus (simp (disch := omega) only [go_sem, ↓reduceIte, Nat.reduceEqDiff, Nat.reduceLT, reduceCtorEq, if_pos, q1, g1, g2, q2, List.getElem?_drop] <;> rfl)); (first | refine pickT ?_ | refine pickF ?_ | fail_if_success with_reducible refine pickA ?_)) | ((with_reducible refine SC.draw Tab.mixed ?_ ?_); (focus (first | rfl | simp (disch := omega) only [go_sem, ↓reduceIte, Nat.reduceEqDiff, Nat.reduceLT, Nat.reduceLeDiff, Nat.reduceAdd, Nat.reduceMul, Nat.reduceSub, reduceCtorEq, Nat.reduceBEq, Int.reduceToNat, Int.reducePow, if_pos, if_neg, q1, g1, g2, q2, List.getElem?_drop]))) | (with_reducible apply SC.ops)))
        refine hK _ (k + 1) ?_ ⟨by omega, fun j hj => ?_⟩ (by omega)
        · (refine Le.of [] hB (by first | exact ⟨Nat.zero_le _, fun _ _ => Nat.zero_le _⟩ | (constructor <;> (try simp) <;> (try omega))) ?_ ?_ <;> (repeat' (first | exact leSl_nil | exact leHp_nil | refine leSl_cons (by simp (disch := omega) only [go_sem, ↓reduceIte, reduceCtorEq]; rfl) ?_ ?_ | refine leHp_cons (by simp (disch := omega) only [go_sem, ↓reduceIte, Nat.reduceEqDiff, Nat.reduceLT, Nat.reduceLeDiff, Nat.reduceAdd, Nat.reduceMul, Nat.reduceSub, reduceCtorEq, Nat.reduceBEq, Int.reduceToNat, Int.reducePow, if_pos, if_neg]; rfl) ?_ ?_ | exact VLe.junk _ | exact VLe.refl rfl | exact VLe.nil_sl _ _ _ | exact VLe.int (by first | rfl | omega | (dsimp only; omega)) | exact VLe.bool rfl | exact VLe.sl rfl (by first | rfl | omega | (dsimp only; omega) | (simp; done)) | exact VLe.cap rfl (by first | rfl | omega | (dsimp only; omega) | (simp; done)) | exact VLe.im rfl rfl | exact HLe.new rfl | exact HLe.same rfl (LLe.refl rfl) | refine HLe.same rfl ?_ | exact LLe.nil _ | exact LLe.refl rfl | refine LLe.cons ?_ ?_)))
        · rcases Nat.lt_or_ge j k with g | g
          · exact hI j g
          · rw [show j = k by omega]; exact h0
      · have q2 : (((r.getD k 0 : Nat) : Int) != 0) = true := by rw [bne_iff_ne]; omega
        have hz : zeroL r = false := by
          cases hz : zeroL r with
          | false => rfl
          | true => exact absurd (zeroL_iff.1 hz k (by omega)) h0
        (repeat (first | (first | refine DO.nilC (by kernel_rfl) ?_ | refine DO.nil (by kernel_rfl) ?_) | (with_reducible first | apply oz1 | apply oz2 | apply oz3 | apply oz4 | apply oz5 | apply oz6 | apply oz7 | apply oz8 | apply oz9 | apply ozb | apply ozc | apply oze | apply ozf | apply ozg | apply ozh | apply ozi | apply ozj | apply ozk | refine ozd (by decide) ?_) | ((first | apply SO.call | apply DO.call); (iterate 3 (focus (simp (disch := omega) only [go_sem, ↓reduceIte, Nat.reduceEqDiff, Nat.reduceLT, Nat.reduceLeDiff, Nat.reduceAdd, Nat.reduceMul, Nat.reduceSub, reduceCtorEq, Nat.reduceBEq, Int.reduceToNat, Int.reducePow, if_pos, if_neg, q1, g1, g2, q2, List.getElem?_drop] <;> rfl))); (first | apply SCall.ofX | apply DCall.ofX); (focus (first | assumption)); (focus (simp (disch := omega) only [go_sem, ↓reduceIte, Nat.reduceEqDiff, Nat.reduceLT, Nat.reduceLeDiff, Nat.reduceAdd, Nat.reduceMul, Nat.reduceSub, reduceCtorEq, Nat.reduceBEq, Int.reduceToNat, Int.reducePow, if_pos, if_neg, q1, g1, g2, q2, List.getElem?_drop] <;> rfl))) | ((with_reducible first | apply SC.condB | apply SC.region | apply SO.run | apply DO.run); (focus (simp (disch := omega) only [go_sem, ↓reduceIte, Nat.reduceEqDiff, Nat.reduceLT, reduceCtorEq, if_pos, q1, g1, g2, q2, List.getElem?_drop] <;> rfl)); (first | refine pickT ?_ | refine pickF ?_ | fail_if_success with_reducible refine pickA ?_)) | ((with_reducible refine SC.draw Tab.mixed ?_ ?_); (focus (first | rfl | simp (disch := omega) only [go_sem, ↓reduceIte, Nat.reduceEqDiff, Nat.reduceLT, Nat.reduceLeDiff, Nat.reduceAdd, Nat.reduceMul, Nat.reduceSub, reduceCtorEq, Nat.reduceBEq, Int.reduceToNat, Int.reducePow, if_pos, if_neg, q1, g1, g2, q2, List.getElem?_drop]))) | (with_reducible apply SC.ops)))
        exact retQ_ret Try.results24 (by simp (disch := omega) only [go_sem, ↓reduceIte] <;> rfl) (by simp (disch := omega) only [go_sem] <;> rfl) (by rw [hz])
    · have q1 := decide_eq_false (p := (k : Int) < (w : Int)) (by omega)
      have hz : zeroL r = true := zeroL_iff.2 fun j hj => hI j (by omega)
      (repeat (first | (first | refine DO.nilC (by kernel_rfl) ?_ | refine DO.nil (by kernel_rfl) ?_) | (with_reducible first | apply oz1 | apply oz2 | apply oz3 | apply oz4 | apply oz5 | apply oz6 | apply oz7 | apply oz8 | apply oz9 | apply ozb | apply ozc | apply oze | apply ozf | apply ozg | apply ozh | apply ozi | apply ozj | apply ozk | refine ozd (by decide) ?_) | ((first | apply SO.call | apply DO.call); (iterate 3 (focus (simp (disch := omega) only [go_sem, ↓reduceIte, Nat.reduceEqDiff, Nat.reduceLT, Nat.reduceLeDiff, Nat.reduceAdd, Nat.reduceMul, Nat.reduceSub, reduceCtorEq, Nat.reduceBEq, Int.reduceToNat, Int.reducePow, if_pos, if_neg, q1] <;> rfl))); (first | apply SCall.ofX | apply DCall.ofX); (focus (first | assumption)); (focus (simp (disch := omega) only [go_sem, ↓reduceIte, Nat.reduceEqDiff, Nat.reduceLT, Nat.reduceLeDiff, Nat.reduceAdd, Nat.reduceMul, Nat.reduceSub, reduceCtorEq, Nat.reduceBEq, Int.reduceToNat, Int.reducePow, if_pos, if_neg, q1] <;> rfl))) | ((with_reducible first | apply SC.condB | apply SC.region | apply SO.run | apply DO.run); (focus (simp (disch := omega) only [go_sem, ↓reduceIte, Nat.reduceEqDiff, reduceCtorEq, q1] <;> rfl)); (first | refine pickT ?_ | refine pickF ?_ | fail_if_success with_reducible refine pickA ?_)) | ((with_reducible refine SC.draw Tab.mixed ?_ ?_); (focus (first | rfl | simp (disch := omega) only [go_sem, ↓reduceIte, Nat.reduceEqDiff, Nat.reduceLT, Nat.reduceLeDiff, Nat.reduceAdd, Nat.reduceMul, Nat.reduceSub, reduceCtorEq, Nat.reduceBEq, Int.reduceToNat, Int.reducePow, if_pos, if_neg, q1]))) | (with_reducible apply SC.ops)))
      exact retQ_ret Try.results24 (by simp (disch := omega) only [go_sem, ↓reduceIte] <;> rfl) (by simp (disch := omega) only [go_sem] <;> rfl) (by rw [hz])

/-- equal rows -/
theorem rrow_t {w : Nat} {r : List Nat} (hl : r.length = w) (hw : w ≤ 1000000) : Spec Try.prog 26 [.im (nv r) w, .im (nv r) w] (.sc (.bool true)) := by
  refine Spec.run Try.func26 rfl Try.ntmps26 (by simp) (by simp (disch := omega) only [go_sem, Nat.reduceAdd]; rfl) fun B hB => ?_
  (repeat (first | (first | refine DO.nilC (by kernel_rfl) ?_ | refine DO.nil (by kernel_rfl) ?_) | (with_reducible first | apply oz1 | apply oz2 | apply oz3 | apply oz4 | apply oz5 | apply oz6 | apply oz7 | apply oz8 | apply oz9 | apply ozb | apply ozc | apply oze | apply ozf | apply ozg | apply ozh | apply ozi | apply ozj | apply ozk | refine ozd (by decide) ?_) | ((first | apply SO.call | apply DO.call); (iterate 3 (focus (simp (disch := omega) only [go_sem, ↓reduceIte, Nat.reduceEqDiff, Nat.reduceLT, Nat.reduceLeDiff, Nat.reduceAdd, Nat.reduceMul, Nat.reduceSub, reduceCtorEq, Nat.reduceBEq, Int.reduceToNat, Int.reducePow, if_pos, if_neg, bne_self_eq_false] <;> rfl))); (first | apply SCall.ofX | apply DCall.ofX); (focus (first | assumption)); (focus (simp (disch := omega) only [go_sem, ↓reduceIte, Nat.reduceEqDiff, Nat.reduceLT, Nat.reduceLeDiff, Nat.reduceAdd, Nat.reduceMul, Nat.reduceSub, reduceCtorEq, Nat.reduceBEq, Int.reduceToNat, Int.reducePow, if_pos, if_neg, bne_self_eq_false] <;> rfl))) | ((with_reducible first | apply SC.condB | apply SC.region | apply SO.run | apply DO.run); (focus (simp (disch := omega) only [go_sem, ↓reduceIte, Nat.reduceEqDiff, reduceCtorEq, bne_self_eq_false] <;> rfl)); (first | refine pickT ?_ | refine pickF ?_ | fail_if_success with_reducible refine pickA ?_)) | ((with_reducible refine SC.draw Tab.mixed ?_ ?_); (focus (first | rfl | simp (disch := omega) only [go_sem, ↓reduceIte, Nat.reduceEqDiff, Nat.reduceLT, Nat.reduceLeDiff, Nat.reduceAdd, Nat.reduceMul, Nat.reduceSub, reduceCtorEq, Nat.reduceBEq, Int.reduceToNat, Int.reducePow, if_pos, if_neg, bne_self_eq_false]))) | (with_reducible apply SC.ops)))
  refine SC.loop (fun k : Nat => ⟨[(0, .im (nv r) w), (1, .im (nv r) w), (5, .sc (.int .i64 k))], [], 0, 26⟩)
    (fun k => k ≤ w) (fun k => w - k) 0 ?_ ?_ ?_
  · (refine Le.of [] hB (by first | exact ⟨Nat.zero_le _, fun _ _ => Nat.zero_le _⟩ | (constructor <;> (try simp) <;> (try omega))) ?_ ?_ <;> (repeat' (first | exact leSl_nil | exact leHp_nil | refine leSl_cons (by simp (disch := omega) only [go_sem, ↓reduceIte, Nat.reduceEqDiff, reduceCtorEq]; rfl) ?_ ?_ | refine leHp_cons (by simp (disch := omega) only [go_sem, ↓reduceIte, Nat.reduceEqDiff, Nat.reduceLT, Nat.reduceLeDiff, Nat.reduceAdd, Nat.reduceMul, Nat.reduceSub, reduceCtorEq, Nat.reduceBEq, Int.reduceToNat, Int.reducePow, if_pos, if_neg]; rfl) ?_ ?_ | exact VLe.junk _ | exact VLe.refl rfl | exact VLe.nil_sl _ _ _ | exact VLe.int (by first | rfl | omega | (dsimp only; omega)) | exact VLe.bool rfl | exact VLe.sl rfl (by first | rfl | omega | (dsimp only; omega) | (simp; done)) | exact VLe.cap rfl (by first | rfl | omega | (dsimp only; omega) | (simp; done)) | exact VLe.im rfl rfl | exact HLe.new rfl | exact HLe.same rfl (LLe.refl rfl) | refine HLe.same rfl ?_ | exact LLe.nil _ | exact LLe.refl rfl | refine LLe.cons ?_ ?_)))
  · exact Nat.zero_le _
  · intro k hk K hK
    by_cases hkw : k < w
    · have q1 := decide_eq_true (p := (k : Int) < (w : Int)) (by omega)
      have g1 := nv_get (r := r) (j := k) (by omega)
      have g2 := nv_len r
      (repeat (first | (first | refine DO.nilC (by kernel_rfl) ?_ | refine DO.nil (by kernel_rfl) ?_) | (with_reducible first | apply oz1 | apply oz2 | apply oz3 | apply oz4 | apply oz5 | apply oz6 | apply oz7 | apply oz8 | apply oz9 | apply ozb | apply ozc | apply oze | apply ozf | apply ozg | apply ozh | apply ozi | apply ozj | apply ozk | refine ozd (by decide) ?_) | ((first | apply SO.call | apply DO.call); (iterate 3 (focus (simp (disch := omega) only [go_sem, ↓reduceIte, Nat.reduceEqDiff, Nat.reduceLT, Nat.reduceLeDiff, Nat.reduceAdd, Nat.reduceMul, Nat.reduceSub, reduceCtorEq, Nat.reduceBEq, Int.reduceToNat, Int.reducePow, if_pos, if_neg, q1, g1, g2, bne_self_eq_false, List.getElem?_drop] <;> rfl))); (first | apply SCall.ofX | apply DCall.ofX); (focus (first | assumption)); (focus (simp (disch := omega) only [go_sem, ↓reduceIte, Nat.reduceEqDiff, Nat.reduceLT, Nat.reduceLeDiff, Nat.reduceAdd, Nat.reduceMul, Nat.reduceSub, reduceCtorEq, Nat.reduceBEq, Int.reduceToNat, Int.reducePow, if_pos, if_neg, q1, g1, g2, bne_self_eq_false, List.getElem?_drop] <;> rfl))) | ((with_reducible first | apply SC.condB | apply SC.region | apply SO.run | apply DO.run); (focus (simp (disch := omega) only [go_sem, ↓reduceIte, Nat.reduceEqDiff, Nat.reduceLT, reduceCtorEq, if_pos, q1, g1, g2, bne_self_eq_false, List.getElem?_drop] <;> rfl)); (first | refine pickT ?_ | refine pickF ?_ | fail_if_success with_reducible refine pickA ?_)) | ((with_reducible refine SC.draw Tab.mixed ?_ ?_); (focus (first | rfl | simp (disch := omega) only [go_sem, ↓reduceIte, Nat.reduceEqDiff, Nat.reduceLT, Nat.reduceLeDiff, Nat.reduceAdd, Nat.reduceMul, Nat.reduceSub, reduceCtorEq, Nat.reduceBEq, Int.reduceToNat, Int.reducePow, if_pos, if_neg, q1, g1, g2, bne_self_eq_false, List.getElem?_drop]))) | (with_reducible apply SC.ops)))
      refine hK _ (k + 1) ?_ (by omega) (by omega)
      (refine Le.of [] hB (by first | exact ⟨Nat.zero_le _, fun _ _ => Nat.zero_le _⟩ | (constructor <;> (try simp) <;> (try omega))) ?_ ?_ <;> (repeat' (first | exact leSl_nil | exact leHp_nil | refine leSl_cons (by simp (disch := omega) only [go_sem, ↓reduceIte, Nat.reduceEqDiff, reduceCtorEq]; rfl) ?_ ?_ | refine leHp_cons (by simp (disch := omega) only [go_sem, ↓reduceIte, Nat.reduceEqDiff, Nat.reduceLT, Nat.reduceLeDiff, Nat.reduceAdd, Nat.reduceMul, Nat.reduceSub, reduceCtorEq, Nat.reduceBEq, Int.reduceToNat, Int.reducePow, if_pos, if_neg]; rfl) ?_ ?_ | exact VLe.junk _ | exact VLe.refl rfl | exact VLe.nil_sl _ _ _ | exact VLe.int (by first | rfl | omega | (dsimp only; omega)) | exact VLe.bool rfl | exact VLe.sl rfl (by first | rfl | omega | (dsimp only; omega) | (simp; done)) | exact VLe.cap rfl (by first | rfl | omega | (dsimp only; omega) | (simp; done)) | exact VLe.im rfl rfl | exact HLe.new rfl | exact HLe.same rfl (LLe.refl rfl) | refine HLe.same rfl ?_ | exact LLe.nil _ | exact LLe.refl rfl | refine LLe.cons ?_ ?_)))
    · have q1 := decide_eq_false (p := (k : Int) < (w : Int)) (by omega)
      (repeat (first | (first | refine DO.nilC (by kernel_rfl) ?_ | refine DO.nil (by kernel_rfl) ?_) | (with_reducible first | apply oz1 | apply oz2 | apply oz3 | apply oz4 | apply oz5 | apply oz6 | apply oz7 | apply oz8 | apply oz9 | apply ozb | apply ozc | apply oze | apply ozf | apply ozg | apply ozh | apply ozi | apply ozj | apply ozk | refine ozd (by decide) ?_) | ((first | apply SO.call | apply DO.call); (iterate 3 (focus (simp (disch := omega) only [go_sem, ↓reduceIte, Nat.reduceEqDiff, Nat.reduceLT, Nat.reduceLeDiff, Nat.reduceAdd, Nat.reduceMul, Nat.reduceSub, reduceCtorEq, Nat.reduceBEq, Int.reduceToNat, Int.reducePow, if_pos, if_neg, q1] <;> rfl))); (first | apply SCall.ofX | apply DCall.ofX); (focus (first | assumption)); (focus (simp (disch := omega) only [go_sem, ↓reduceIte, Nat.reduceEqDiff, Nat.reduceLT, Nat.reduceLeDiff, Nat.reduceAdd, Nat.reduceMul, Nat.reduceSub, reduceCtorEq, Nat.reduceBEq, Int.reduceToNat, Int.reducePow, if_pos, if_neg, q1] <;> rfl))) | ((with_reducible first | apply SC.condB | apply SC.region | apply SO.run | apply DO.run); (focus (simp (disch := omega) only [go_sem, ↓reduceIte, Nat.reduceEqDiff, reduceCtorEq, q1] <;> rfl)); (first | refine pickT ?_ | refine pickF ?_ | fail_if_success with_reducible refine pickA ?_)) | ((with_reducible refine SC.draw Tab.mixed ?_ ?_); (focus (first | rfl | simp (disch := omega) only [go_sem, ↓reduceIte, Nat.reduceEqDiff, Nat.reduceLT, Nat.reduceLeDiff, Nat.reduceAdd, Nat.reduceMul, Nat.reduceSub, reduceCtorEq, Nat.reduceBEq, Int.reduceToNat, Int.reducePow, if_pos, if_neg, q1]))) | (with_reducible apply SC.ops)))
      exact retQ_ret Try.results26 (by simp (disch := omega) only [go_sem, ↓reduceIte] <;> rfl) (by simp (disch := omega) only [go_sem] <;> rfl) rfl
end Go.Proofs.Ytpbomhmflllemaa

/- The reference's rows: Plus. -/
namespace Go.Proofs.Ytpbomhmflllemaa
open Go.RowKit

set_option maxRecDepth 4000 in
theorem plus_s {p c w : Nat} {a b : List Nat} (hp : 0 < p) (hp2 : p ≤ 2147483648) (hc : c < p) (ha : Rw p w a) (hb : Rw p w b) (hw : w ≤ 1000000) :
    Spec Try.prog 53 [.sc (.int .u64 p), .ag [.im (nv a) w, .im (nv b) w], .sc (.int .u64 c)] (.im (nv (addRw p a b c)) w) := by
  have hla := ha.1
  have hlb := hb.1
  refine Spec.run Try.func53 rfl Try.ntmps53 (by simp) (by simp (disch := omega) only [go_sem, Nat.reduceAdd]; rfl) fun B hB => ?_
  (repeat (first | (first | refine DO.nilC (by kernel_rfl) ?_ | refine DO.nil (by kernel_rfl) ?_) | (with_reducible first | apply oz1 | apply oz2 | apply oz3 | apply oz4 | apply oz5 | apply oz6 | apply oz7 | apply oz8 | apply oz9 | apply ozb | apply ozc | apply oze | apply ozf | apply ozg | apply ozh | apply ozi | apply ozj | apply ozk | refine ozd (by decide) ?_) | ((first | apply SO.call | apply DO.call); (iterate 3 (focus (simp (disch := omega) only [go_sem, ↓reduceIte, Nat.reduceEqDiff, Nat.reduceLT, Nat.reduceLeDiff, Nat.reduceAdd, Nat.reduceMul, Nat.reduceSub, reduceCtorEq, Nat.reduceBEq, Int.reduceToNat, Int.reducePow, if_pos, if_neg] <;> rfl))); (first | apply SCall.ofX | apply DCall.ofX); (focus (first | assumption)); (focus (simp (disch := omega) only [go_sem, ↓reduceIte, Nat.reduceEqDiff, Nat.reduceLT, Nat.reduceLeDiff, Nat.reduceAdd, Nat.reduceMul, Nat.reduceSub, reduceCtorEq, Nat.reduceBEq, Int.reduceToNat, Int.reducePow, if_pos, if_neg] <;> rfl))) | ((with_reducible first | apply SC.condB | apply SC.region | apply SO.run | apply DO.run); (focus (simp (disch := omega) only [go_sem, ↓reduceIte, Nat.reduceLeDiff, Nat.reduceAdd, reduceCtorEq] <;> rfl)); (first | refine pickT ?_ | refine pickF ?_ | fail_if_success with_reducible refine pickA ?_)) | ((with_reducible refine SC.draw Tab.mixed ?_ ?_); (focus (first | rfl | simp (disch := omega) only [go_sem, ↓reduceIte, Nat.reduceEqDiff, Nat.reduceLT, Nat.reduceLeDiff, Nat.reduceAdd, Nat.reduceMul, Nat.reduceSub, reduceCtorEq, Nat.reduceBEq, Int.reduceToNat, Int.reducePow, if_pos, if_neg]))) | (with_reducible apply SC.ops)))
  refine SC.loop (fun x : Nat × Nat × Nat => ⟨[(0, .sc (.int .u64 p)), (2, .sc (.int .u64 c)), (4, .pt 0 0), (7, .sl x.2.1 0 x.1 1 none), (8, .sc (.int .i64 x.1))], [(0, ⟨58, [.im (nv a) w, .im (nv b) w], false⟩), (x.2.1, ⟨26, nv (addRw p (a.take x.1) (b.take x.1) c), false⟩)], x.2.2, 36⟩)
    (fun x => x.1 ≤ w ∧ 0 < x.2.1 ∧ x.2.1 < x.2.2) (fun x => w - x.1) (0, 1, 2) ?_ ?_ ?_
  · (refine Le.slots ?_ ?_ ?_ <;> (repeat' (first | (exact fun _ _ h => h) | exact Nat.le_refl _ | exact leSl_nil | refine leSl_cons (by simp (disch := omega) only [go_sem, ↓reduceIte, Nat.reduceEqDiff, reduceCtorEq] <;> rfl) ?_ ?_ | exact VLe.junk _ | exact VLe.refl rfl | exact VLe.nil_sl _ _ _ | exact VLe.int (by first | rfl | omega | (dsimp only; omega)) | exact VLe.bool rfl | exact VLe.sl rfl (by first | rfl | omega) | exact VLe.cap rfl (by first | rfl | omega) | exact VLe.im rfl rfl | omega | (refine fun id k h => ?_; simp only [hget] at h ⊢; (repeat' (split at h)) <;> first | (cases h; done) | (simp (disch := omega) only [if_pos, if_neg]; exact h)))))
  · exact ⟨Nat.zero_le _, by simp⟩
  · rintro ⟨k, q, nx⟩ ⟨hk, hq0, hq⟩ K hK
    simp only at hk hq0 hq ⊢
    have u1 := addRw_len' (p := p) (c := c) (a := a) (b := b) (k := k) (by omega) (by omega)
    have u2 : (nv (addRw p (a.take k) (b.take k) c)).take k = nv (addRw p (a.take k) (b.take k) c) := List.take_of_length_le (by omega)
    by_cases hkw : k < w
    · have q1 := decide_eq_true (p := (k : Int) < (w : Int)) (by omega)
      have g1 := nv_get (r := a) (j := k) (by omega)
      have g2 := nv_len a
      have g3 := nv_get (r := b) (j := k) (by omega)
      have g4 := nv_len b
      have c1 := rMul_s p c (b.getD k 0) hp hp2 hc (hb.lt hkw)
      have c2 := rAdd_s p (a.getD k 0) (c * b.getD k 0 % p) hp hp2 (ha.lt hkw) (Nat.mod_lt _ hp)
      have g5 := addRw_snoc (p := p) (c := c) (a := a) (b := b) (k := k) (by omega) (by omega)
      generalize (a.getD k 0 + c * b.getD k 0 % p) % p = y at *
      generalize c * b.getD k 0 % p = z at *
      generalize a.getD k 0 = x1 at *
      generalize b.getD k 0 = x2 at *
      generalize nv (addRw p (a.take k) (b.take k) c) = R0 at *
      generalize hR1 : nv (addRw p (a.take (k + 1)) (b.take (k + 1)) c) = R1 at *
      (repeat (first | (first | refine DO.nilC (by kernel_rfl) ?_ | refine DO.nil (by kernel_rfl) ?_) | (with_reducible refine SC.condB (by simp (disch := omega) only [go_sem, ↓reduceIte]; rfl) ?_; first | with_reducible refine pickT ?_ | with_reducible refine pickF ?_) | (with_reducible first | apply oz1 | apply oz2 | apply oz3 | apply oz4 | apply oz5 | apply oz6 | apply oz7 | apply oz8 | apply oz9 | apply ozb | apply ozc | apply oze | apply ozf | apply ozg | apply ozh | apply ozi | apply ozj | apply ozk | refine ozd (by decide) ?_) | ((with_reducible apply SC.region); (focus (simp (disch := omega) only [go_sem, ↓reduceIte, Nat.reduceEqDiff, reduceCtorEq, Int.reduceToNat, if_pos, q1]; rfl))) | (with_reducible refine SC.draw Tab.mixed rfl ?_; (repeat (refine DO.run (by simp (disch := omega) only [go_sem, ↓reduceIte, Nat.reduceEqDiff, Nat.reduceLT, Nat.reduceLeDiff, Nat.reduceAdd, Nat.reduceMul, Nat.reduceSub, reduceCtorEq, Nat.reduceBEq, Int.reduceToNat, Int.reducePow, if_pos, if_neg, q1, g1, g2, g3, g4, u1, u2, List.getElem?_drop]; rfl) ?_)); (first | refine DO.nilC (by kernel_rfl) ?_ | refine DO.nil (by kernel_rfl) ?_))))
      refine SC.drawT 17 (by simp only [List.take_succ_cons, List.take_zero]; rfl) (by simp only [List.drop_succ_cons, List.drop_zero]; rfl) Tab.mixed ?_ (by kernel_rfl) ?_
      · exact klc (show 0 < nx by omega) (klc (show q < nx by omega) kln)
      (repeat (first | (first | refine DO.nilC (by kernel_rfl) ?_ | refine DO.nil (by kernel_rfl) ?_) | (with_reducible first | apply oz1 | apply oz2 | apply oz3 | apply oz4 | apply oz5 | apply oz6 | apply oz7 | apply oz8 | apply oz9 | apply ozb | apply ozc | apply oze | apply ozf | apply ozg | apply ozh | apply ozi | apply ozj | apply ozk | refine ozd (by decide) ?_) | ((first | apply SO.call | apply DO.call); (iterate 3 (focus (simp (disch := omega) only [go_sem, ↓reduceIte, Nat.reduceEqDiff] <;> rfl))); (first | apply SCall.ofX | apply DCall.ofX); (focus (first | assumption)); (focus (simp (disch := omega) only [go_sem] <;> rfl))) | ((with_reducible first | apply SC.condB | apply SC.region | apply SO.run | apply DO.run); (focus (simp (disch := omega) only [go_sem, ↓reduceIte, Nat.reduceEqDiff, Nat.reduceLeDiff, reduceCtorEq, Int.reduceToNat, if_pos, g1, g2, g3, g4, List.getElem?_drop] <;> rfl)); (first | refine pickT ?_ | refine pickF ?_ | fail_if_success with_reducible refine pickA ?_)) | ((with_reducible refine SC.draw Tab.mixed ?_ ?_); (focus (first | rfl | simp (disch := omega) only [go_sem, ↓reduceIte, Nat.reduceEqDiff, Nat.reduceLT, Nat.reduceLeDiff, Nat.reduceAdd, Nat.reduceMul, Nat.reduceSub, reduceCtorEq, Nat.reduceBEq, Int.reduceToNat, Int.reducePow, if_pos, if_neg, g1, g2, g3, g4, List.getElem?_drop]))) | (with_reducible apply SC.ops)))
      show SO _ _ _ _ _ _ _
      (repeat (first | (first | refine DO.nilC (by kernel_rfl) ?_ | refine DO.nil (by kernel_rfl) ?_) | (with_reducible first | apply oz1 | apply oz2 | apply oz3 | apply oz4 | apply oz5 | apply oz6 | apply oz7 | apply oz8 | apply oz9 | apply ozb | apply ozc | apply oze | apply ozf | apply ozg | apply ozh | apply ozi | apply ozj | apply ozk | refine ozd (by decide) ?_) | ((first | apply SO.call | apply DO.call); (iterate 3 (focus (simp (disch := omega) only [go_sem, ↓reduceIte, Nat.reduceEqDiff, Nat.reduceLT, Nat.reduceLeDiff, Nat.reduceAdd, Nat.reduceMul, Nat.reduceSub, reduceCtorEq, Nat.reduceBEq, Int.reduceToNat, Int.reducePow, if_pos, if_neg, g5, u1, u2] <;> rfl))); (first | apply SCall.ofX | apply DCall.ofX); (focus (first | assumption)); (focus (simp (disch := omega) only [go_sem, ↓reduceIte, Nat.reduceEqDiff, Nat.reduceLT, Nat.reduceLeDiff, Nat.reduceAdd, Nat.reduceMul, Nat.reduceSub, reduceCtorEq, Nat.reduceBEq, Int.reduceToNat, Int.reducePow, if_pos, if_neg, g5, u1, u2] <;> rfl))) | ((with_reducible first | apply SC.condB | apply SC.region | apply SO.run | apply DO.run); (focus (simp (disch := omega) only [go_sem, ↓reduceIte, Nat.reduceEqDiff, Nat.reduceLeDiff, reduceCtorEq, if_pos, if_neg, g5, u1, u2] <;> rfl)); (first | refine pickT ?_ | refine pickF ?_ | fail_if_success with_reducible refine pickA ?_)) | ((with_reducible refine SC.draw Tab.mixed ?_ ?_); (focus (first | rfl | simp (disch := omega) only [go_sem, ↓reduceIte, Nat.reduceEqDiff, Nat.reduceLT, Nat.reduceLeDiff, Nat.reduceAdd, Nat.reduceMul, Nat.reduceSub, reduceCtorEq, Nat.reduceBEq, Int.reduceToNat, Int.reducePow, if_pos, if_neg, g5, u1, u2]))) | (with_reducible apply SC.ops)))
      refine hK _ (k + 1, nx + 1, nx + 2) ?_ ⟨by simp only; omega, by simp only; omega⟩ (by simp only; omega)
      subst hR1
      (refine Le.slots ?_ ?_ ?_ <;> (repeat' (first | (exact fun _ _ h => h) | exact Nat.le_refl _ | exact leSl_nil | refine leSl_cons (by simp (disch := omega) only [go_sem, ↓reduceIte, Nat.reduceEqDiff, reduceCtorEq] <;> rfl) ?_ ?_ | exact VLe.junk _ | exact VLe.refl rfl | exact VLe.nil_sl _ _ _ | exact VLe.int (by first | rfl | omega | (dsimp only; omega)) | exact VLe.bool rfl | exact VLe.sl rfl (by first | rfl | omega) | exact VLe.cap rfl (by first | rfl | omega) | exact VLe.im rfl rfl | omega | (refine fun id k h => ?_; simp only [hget] at h ⊢; (repeat' (split at h)) <;> first | (cases h; done) | (simp (disch := omega) only [if_pos, if_neg]; exact h)))))
    · have q1 := decide_eq_false (p := (k : Int) < (w : Int)) (by omega)
      have : k = w := by omega
      subst this
      rw [List.take_of_length_le (by omega : a.length ≤ k), List.take_of_length_le (by omega : b.length ≤ k)] at u1 u2 ⊢
      have u3 := nv_clo (addRw p a b c)
      have b1 : (0 == q) = false := beq_eq_false_iff_ne.2 (by omega)
      (repeat (first | (first | refine DO.nilC (by kernel_rfl) ?_ | refine DO.nil (by kernel_rfl) ?_) | (with_reducible first | apply oz1 | apply oz2 | apply oz3 | apply oz4 | apply oz5 | apply oz6 | apply oz7 | apply oz8 | apply oz9 | apply ozb | apply ozc | apply oze | apply ozf | apply ozg | apply ozh | apply ozi | apply ozj | apply ozk | refine ozd (by decide) ?_) | ((first | apply SO.call | apply DO.call); (iterate 3 (focus (simp (disch := omega) only [go_sem, ↓reduceIte, Nat.reduceEqDiff, Nat.reduceLT, Nat.reduceLeDiff, Nat.reduceAdd, Nat.reduceMul, Nat.reduceSub, reduceCtorEq, Nat.reduceBEq, Int.reduceToNat, Int.reducePow, if_pos, if_neg, q1, u1, u2, u3, b1] <;> rfl))); (first | apply SCall.ofX | apply DCall.ofX); (focus (first | assumption)); (focus (simp (disch := omega) only [go_sem, ↓reduceIte, Nat.reduceEqDiff, Nat.reduceLT, Nat.reduceLeDiff, Nat.reduceAdd, Nat.reduceMul, Nat.reduceSub, reduceCtorEq, Nat.reduceBEq, Int.reduceToNat, Int.reducePow, if_pos, if_neg, q1, u1, u2, u3, b1] <;> rfl))) | ((with_reducible first | apply SC.condB | apply SC.region | apply SO.run | apply DO.run); (focus (simp (disch := omega) only [go_sem, ↓reduceIte, Nat.reduceEqDiff, Nat.reduceLT, reduceCtorEq, Int.reduceToNat, if_pos, q1] <;> rfl)); (first | refine pickT ?_ | refine pickF ?_ | fail_if_success with_reducible refine pickA ?_)) | ((with_reducible refine SC.draw Tab.mixed ?_ ?_); (focus (first | rfl | simp (disch := omega) only [go_sem, ↓reduceIte, Nat.reduceEqDiff, Nat.reduceLT, Nat.reduceLeDiff, Nat.reduceAdd, Nat.reduceMul, Nat.reduceSub, reduceCtorEq, Nat.reduceBEq, Int.reduceToNat, Int.reducePow, if_pos, if_neg, q1, u1, u2, u3, b1]))) | (with_reducible apply SC.ops)))
      exact retQ_ret Try.results53 (by simp (disch := omega) only [go_sem, ↓reduceIte] <;> rfl) (by simp (disch := omega) only [go_sem, ↓reduceIte, if_pos, if_neg, u1, u2, u3] <;> rfl) rfl
end Go.Proofs.Ytpbomhmflllemaa

/- The reference: Copied. -/
namespace Go.Proofs.Ytpbomhmflllemaa
open Go.RowKit

theorem imR_take {w : Nat} {M : List (List Nat)} {i : Nat} (h : i < M.length) : imR w (nR (M.take i)) ++ [V.im (nv (M.getD i [])) w] = imR w (nR (M.take (i + 1))) := by
  rw [imR_snoc, take_snoc (d := []) h]
theorem setAll_self {cs xs : List V} (h : cs.length = xs.length) : setAll cs 0 xs = xs := by
  rw [setAll_all _ _ _ (by omega), List.take_zero, Nat.zero_add, List.drop_eq_nil_of_le (by omega)]; simp

set_option maxRecDepth 4000 in
set_option maxHeartbeats 1000000 in
theorem rcopied_s {p n w : Nat} {M : List (List Nat)} (hM : MV p n w M) (hn : n ≤ 1000000) (hw : w ≤ 1000000) :
    Spec Try.prog 13 [md p w M] (md p w M) := by
  have hl := hM.1
  subst hl
  have gl := imR_len w M
  unfold md mv
  refine Spec.run Try.func13 rfl Try.ntmps13 (by simp) (by simp (disch := omega) only [go_sem]; rfl) fun B hB => ?_
  (repeat (first | refine DO.nil (by kernel_rfl) ?_ | (with_reducible first | apply oz1 | apply oz2 | apply oz3 | apply oz4 | apply oz5 | apply oz6 | apply oz7 | apply oz8 | apply oz9 | apply ozb | apply ozc | apply oze | apply ozf | apply ozg | apply ozh | apply ozi | apply ozj | apply ozk | refine ozd (by decide) ?_) | ((first | apply SO.call | apply DO.call); (iterate 3 (focus (simp (disch := omega) only [go_sem, ↓reduceIte, Nat.reduceEqDiff, Nat.reduceLT, Nat.reduceLeDiff, Nat.reduceAdd, Nat.reduceMul, Nat.reduceSub, reduceCtorEq, Nat.reduceBEq, Int.reduceToNat, Int.reducePow, if_pos, if_neg] <;> rfl))); (first | apply SCall.ofX | apply DCall.ofX); (focus (first | assumption)); (focus (simp (disch := omega) only [go_sem, ↓reduceIte, Nat.reduceEqDiff, Nat.reduceLT, Nat.reduceLeDiff, Nat.reduceAdd, Nat.reduceMul, Nat.reduceSub, reduceCtorEq, Nat.reduceBEq, Int.reduceToNat, Int.reducePow, if_pos, if_neg] <;> rfl))) | ((with_reducible first | apply SC.condB | apply SC.region | apply SO.run | apply DO.run); (focus (simp (disch := omega) only [go_sem, ↓reduceIte, Nat.reduceEqDiff, Nat.reduceLeDiff, Nat.reduceAdd, reduceCtorEq] <;> rfl)); (first | refine pickT ?_ | refine pickF ?_ | fail_if_success with_reducible refine pickA ?_)) | ((with_reducible refine SC.draw Tab.mixed ?_ ?_); (focus (first | rfl | simp (disch := omega) only [go_sem, ↓reduceIte, Nat.reduceEqDiff, Nat.reduceLT, Nat.reduceLeDiff, Nat.reduceAdd, Nat.reduceMul, Nat.reduceSub, reduceCtorEq, Nat.reduceBEq, Int.reduceToNat, Int.reducePow, if_pos, if_neg]))) | (with_reducible apply SC.ops)))
  refine SC.loop (fun i : Nat => ⟨[(1, .pt 0 0), (2, .pt 1 0), (3, .pt 2 0), (4, .sc (.int .i64 i))], [(2, ⟨29, [.sc (.int .u64 p), .sc (.int .i64 w), .sl 3 0 i 1 none], false⟩), (3, ⟨44, imR w (nR (M.take i)), false⟩), (1, ⟨29, [.sc (.int .u64 0), .sc (.int .i64 0), .sc (.slice none 0 0)], false⟩), (0, ⟨29, [.sc (.int .u64 p), .sc (.int .i64 w), .im (imR w (nR M)) M.length], false⟩)], 4, 30⟩)
    (fun i => i ≤ M.length) (fun i => M.length - i) 0 ?_ ?_ ?_
  · refine nilRow (pre := [.sc (.int .u64 p), .sc (.int .i64 w)]) 2 3 hB (by simp (disch := omega) only [go_sem, ↓reduceIte] <;> rfl) rfl (by omega) ?_ (Nat.zero_le _) ?_
    · exact ⟨⟨by omega, by omega, by omega, by simp, by simp (disch := omega) only [go_sem, ↓reduceIte, Nat.reduceEqDiff] <;> rfl, rfl⟩, ⟨by omega, by omega, by omega, by simp, by simp (disch := omega) only [go_sem, ↓reduceIte, reduceCtorEq] <;> rfl, rfl⟩, trivial⟩
    · (repeat' (first | exact trivial | refine mapSl_cons (by simp (disch := omega) only [go_sem, ↓reduceIte, Nat.reduceEqDiff] <;> rfl) ?_ ?_ | exact VMap.junk _ | exact VMap.sc _ | exact VMap.clo rfl | exact VMap.sl rfl (by omega) | exact VMap.cap rfl (by omega) | exact VMap.pt rfl (by omega) | exact VMap.nil_sl _ _ _ | exact VMap.int (by first | rfl | omega | (dsimp only; omega))))
  · exact Nat.zero_le _
  · intro i hi K hK
    by_cases hc : i < M.length
    · have q1 := decide_eq_true (p := (i : Int) < (M.length : Int)) (by omega)
      have g1 := imR_get (w := w) (M := M) (i := i) (by omega)
      have hr := hM.get hc
      have g3 := nv_len (M.getD i [])
      rw [hr.1] at g3
      have g4 := imR_take (w := w) hc
      have g5 := imR_len w (M.take i)
      rw [List.length_take, Nat.min_eq_left hi] at g5
      have g6 : (imR w (nR (M.take i))).take i = imR w (nR (M.take i)) := List.take_of_length_le (by omega)
      have t6 : (nv (M.getD i [])).take w = nv (M.getD i []) := List.take_of_length_le (by rw [g3]; exact Nat.le_refl _)
      have t7 := nv_one (M.getD i [])
      generalize M.getD i [] = r at *
      (repeat (first | refine DO.nil (by kernel_rfl) ?_ | (with_reducible first | apply oz1 | apply oz2 | apply oz3 | apply oz4 | apply oz5 | apply oz6 | apply oz7 | apply oz8 | apply oz9 | apply ozb | apply ozc | apply oze | apply ozf | apply ozg | apply ozh | apply ozi | apply ozj | apply ozk | refine ozd (by decide) ?_) | ((first | apply SO.call | apply DO.call); (iterate 3 (focus (simp (disch := omega) only [go_sem, ↓reduceIte, Nat.reduceEqDiff, Nat.reduceLT, Nat.reduceLeDiff, Nat.reduceAdd, Nat.reduceMul, Nat.reduceSub, reduceCtorEq, Nat.reduceBEq, Int.reduceToNat, Int.reducePow, if_pos, if_neg, q1, gl, g1, g3, g5, g6, t6, t7, List.getElem?_drop] <;> rfl))); (first | apply SCall.ofX | apply DCall.ofX); (focus (first | assumption)); (focus (simp (disch := omega) only [go_sem, ↓reduceIte, Nat.reduceEqDiff, Nat.reduceLT, Nat.reduceLeDiff, Nat.reduceAdd, Nat.reduceMul, Nat.reduceSub, reduceCtorEq, Nat.reduceBEq, Int.reduceToNat, Int.reducePow, if_pos, if_neg, q1, gl, g1, g3, g5, g6, t6, t7, List.getElem?_drop] <;> rfl))) | ((with_reducible first | apply SC.condB | apply SC.region | apply SO.run | apply DO.run); (focus (simp (disch := omega) only [go_sem, ↓reduceIte, Nat.reduceEqDiff, Nat.reduceLeDiff, Nat.reduceAdd, reduceCtorEq, if_pos, q1, gl, g1, g3, g5, g6, t7, List.getElem?_drop] <;> rfl)); (first | refine pickT ?_ | refine pickF ?_ | fail_if_success with_reducible refine pickA ?_)) | ((with_reducible refine SC.draw Tab.mixed ?_ ?_); (focus (first | rfl | simp (disch := omega) only [go_sem, ↓reduceIte, Nat.reduceEqDiff, Nat.reduceLT, Nat.reduceLeDiff, Nat.reduceAdd, Nat.reduceMul, Nat.reduceSub, reduceCtorEq, Nat.reduceBEq, Int.reduceToNat, Int.reducePow, if_pos, if_neg, q1, gl, g1, g3, g5, g6, t6, t7, List.getElem?_drop]))) | (with_reducible apply SC.ops)))
      have t8 := nv_clo r
      refine hK _ (i + 1) ?_ (by omega) (by omega)
      rw [← g4]
      refine appRow (pre := [.sc (.int .u64 p), .sc (.int .i64 w)]) (y := .im (nv r) w) (ids := [5]) 2 3 7 hB (by simp (disch := omega) only [go_sem, ↓reduceIte, Nat.reduceEqDiff] <;> rfl) (by simp (disch := omega) only [go_sem, ↓reduceIte] <;> rfl) (by simp (disch := omega) only [go_sem, ↓reduceIte, Nat.reduceEqDiff, if_pos, g3, t6, t8] <;> rfl) rfl (imR_clo _ _) rfl (by omega) (by omega) (by simp) (by simp) ?_ (Nat.zero_le _) ?_
      · exact ⟨⟨by omega, by omega, by omega, by simp, by simp (disch := omega) only [go_sem, ↓reduceIte, Nat.reduceEqDiff] <;> rfl, rfl⟩, ⟨by omega, by omega, by omega, by simp, by simp (disch := omega) only [go_sem, ↓reduceIte, reduceCtorEq] <;> rfl, rfl⟩, trivial⟩
      · (repeat' (first | exact trivial | refine mapSl_cons (by simp (disch := omega) only [go_sem, ↓reduceIte, Nat.reduceEqDiff] <;> rfl) ?_ ?_ | exact VMap.junk _ | exact VMap.sc _ | exact VMap.clo rfl | exact VMap.sl rfl (by omega) | exact VMap.cap rfl (by omega) | exact VMap.pt rfl (by omega) | exact VMap.nil_sl _ _ _ | exact VMap.int (by first | rfl | omega | (dsimp only; omega))))
    · have q1 := decide_eq_false (p := (i : Int) < (M.length : Int)) (by omega)
      have hin : i = M.length := by omega
      subst hin
      rw [List.take_of_length_le (Nat.le_refl _)]
      have u3 := imR_clo w (nR M)
      have u4 : (imR w (nR M)).take M.length = imR w (nR M) := List.take_of_length_le (by omega)
      (repeat (first | refine DO.nil (by kernel_rfl) ?_ | (with_reducible first | apply oz1 | apply oz2 | apply oz3 | apply oz4 | apply oz5 | apply oz6 | apply oz7 | apply oz8 | apply oz9 | apply ozb | apply ozc | apply oze | apply ozf | apply ozg | apply ozh | apply ozi | apply ozj | apply ozk | refine ozd (by decide) ?_) | ((first | apply SO.call | apply DO.call); (iterate 3 (focus (simp (disch := omega) only [go_sem, ↓reduceIte, Nat.reduceEqDiff, Nat.reduceLT, Nat.reduceLeDiff, Nat.reduceAdd, Nat.reduceMul, Nat.reduceSub, reduceCtorEq, Nat.reduceBEq, Int.reduceToNat, Int.reducePow, if_pos, if_neg, q1] <;> rfl))); (first | apply SCall.ofX | apply DCall.ofX); (focus (first | assumption)); (focus (simp (disch := omega) only [go_sem, ↓reduceIte, Nat.reduceEqDiff, Nat.reduceLT, Nat.reduceLeDiff, Nat.reduceAdd, Nat.reduceMul, Nat.reduceSub, reduceCtorEq, Nat.reduceBEq, Int.reduceToNat, Int.reducePow, if_pos, if_neg, q1] <;> rfl))) | ((with_reducible first | apply SC.condB | apply SC.region | apply SO.run | apply DO.run); (focus (simp (disch := omega) only [go_sem, ↓reduceIte, Nat.reduceEqDiff, Nat.reduceLT, Nat.reduceLeDiff, Nat.reduceAdd, reduceCtorEq, q1] <;> rfl)); (first | refine pickT ?_ | refine pickF ?_ | fail_if_success with_reducible refine pickA ?_)) | ((with_reducible refine SC.draw Tab.mixed ?_ ?_); (focus (first | rfl | simp (disch := omega) only [go_sem, ↓reduceIte, Nat.reduceEqDiff, Nat.reduceLT, Nat.reduceLeDiff, Nat.reduceAdd, Nat.reduceMul, Nat.reduceSub, reduceCtorEq, Nat.reduceBEq, Int.reduceToNat, Int.reducePow, if_pos, if_neg, q1]))) | (with_reducible apply SC.ops)))
      exact retQ_ret Try.results13 (by simp (disch := omega) only [go_sem, ↓reduceIte, Nat.reduceEqDiff, Nat.reduceLeDiff, Nat.reduceAdd] <;> rfl) (by simp (disch := omega) only [go_sem, ↓reduceIte, Nat.reduceEqDiff, if_pos, u3, u4, gl] <;> rfl) rfl
end Go.Proofs.Ytpbomhmflllemaa

/- The reference: Act, Same. -/
namespace Go.Proofs.Ytpbomhmflllemaa
open Go.RowKit

theorem actGo_snoc {p : Nat} : ∀ {xs : List Nat} {rs : List (List Nat)} {out : List Nat} {x : Nat} {r : List Nat}, xs.length = rs.length → actGo p (xs ++ [x]) (rs ++ [r]) out = addRw p (actGo p xs rs out) r x
  | [], [], out, x, r, _ => rfl
  | _ :: xs, _ :: rs, out, x, r, h => by
    simp only [List.cons_append, actGo]
    exact actGo_snoc (by simpa using h)
  | [], _ :: _, _, _, _, h => by simp at h
  | _ :: _, [], _, _, _, h => by simp at h

set_option maxRecDepth 4000 in
set_option maxHeartbeats 1000000 in
theorem ract_s {p n w : Nat} {M : List (List Nat)} {x : List Nat} (hp : 0 < p) (hp2 : p ≤ 2147483648) (hM : MV p n w M) (hx : Rw p n x) (hn : n ≤ 1000000) (hw : w ≤ 1000000) :
    Spec Try.prog 27 [.im (nv x) n, md p w M] (.im (nv (actL p w x M)) w) := by
  have hl := hM.1
  subst hl
  have gl := imR_len w M
  have gx := nv_len x
  have hxl := hx.1
  rw [hxl] at gx
  have z1 := nv_repl w
  have z2 := nv_clo (List.replicate w 0)
  have z3 : (nv (List.replicate w 0)).take w = nv (List.replicate w 0) := List.take_of_length_le (by rw [nv_len, List.length_replicate]; exact Nat.le_refl _)
  have z4 := nv_len (List.replicate w 0)
  rw [List.length_replicate] at z4
  unfold md mv
  refine Spec.run Try.func27 rfl Try.ntmps27 (by simp) (by simp (disch := omega) only [go_sem, Nat.reduceAdd]; rfl) fun B hB => ?_
  (repeat (first | refine DO.nil (by kernel_rfl) ?_ | (with_reducible first | apply oz1 | apply oz2 | apply oz3 | apply oz4 | apply oz5 | apply oz6 | apply oz7 | apply oz8 | apply oz9 | apply ozb | apply ozc | apply oze | apply ozf | apply ozg | apply ozh | apply ozi | apply ozj | apply ozk | refine ozd (by decide) ?_) | ((first | apply SO.call | apply DO.call); (iterate 3 (focus (simp (disch := omega) only [go_sem, ↓reduceIte, Nat.reduceEqDiff, Nat.reduceLT, Nat.reduceLeDiff, Nat.reduceAdd, Nat.reduceMul, Nat.reduceSub, reduceCtorEq, Nat.reduceBEq, Int.reduceToNat, Int.reducePow, if_pos, if_neg] <;> rfl))); (first | apply SCall.ofX | apply DCall.ofX); (focus (first | assumption)); (focus (simp (disch := omega) only [go_sem, ↓reduceIte, Nat.reduceEqDiff, Nat.reduceLT, Nat.reduceLeDiff, Nat.reduceAdd, Nat.reduceMul, Nat.reduceSub, reduceCtorEq, Nat.reduceBEq, Int.reduceToNat, Int.reducePow, if_pos, if_neg] <;> rfl))) | ((with_reducible first | apply SC.condB | apply SC.region | apply SO.run | apply DO.run); (focus (simp (disch := omega) only [go_sem, ↓reduceIte, Nat.reduceEqDiff, Nat.reduceAdd, reduceCtorEq, if_pos] <;> rfl)); (first | refine pickT ?_ | refine pickF ?_ | fail_if_success with_reducible refine pickA ?_)) | ((with_reducible refine SC.draw Tab.mixed ?_ ?_); (focus (first | rfl | simp (disch := omega) only [go_sem, ↓reduceIte, Nat.reduceEqDiff, Nat.reduceLT, Nat.reduceLeDiff, Nat.reduceAdd, Nat.reduceMul, Nat.reduceSub, reduceCtorEq, Nat.reduceBEq, Int.reduceToNat, Int.reducePow, if_pos, if_neg]))) | (with_reducible apply SC.ops)))
  refine SC.loop (fun y : Nat × List Nat => ⟨[(0, .im (nv x) M.length), (3, .pt 0 0), (5, .im (nv y.2) w), (6, .sc (.int .i64 y.1))], [(0, ⟨29, [.sc (.int .u64 p), .sc (.int .i64 w), .im (imR w (nR M)) M.length], false⟩)], 2, 38⟩)
    (fun y => y.1 ≤ M.length ∧ Rw p w y.2 ∧ y.2 = actGo p (x.take y.1) (M.take y.1) (List.replicate w 0)) (fun y => M.length - y.1) (0, List.replicate w 0) ?_ ?_ ?_
  · refine Le.trans (Le.frz (y := .im (nv (List.replicate w 0)) w) (ids := [1]) 5 (show 5 < 38 by omega) (by simp (disch := omega) only [go_sem, ↓reduceIte, Nat.reduceEqDiff, if_pos, z1, z2, z3, z4] <;> rfl)) ?_
    (refine Le.slots ?_ ?_ ?_ <;> (repeat' (first | (exact fun _ _ h => h) | exact Nat.le_refl _ | exact leSl_nil | refine leSl_cons (by simp (disch := omega) only [go_sem, ↓reduceIte, Nat.reduceEqDiff, reduceCtorEq] <;> rfl) ?_ ?_ | exact VLe.junk _ | exact VLe.refl rfl | exact VLe.nil_sl _ _ _ | exact VLe.int (by first | rfl | omega | (dsimp only; omega)) | exact VLe.bool rfl | exact VLe.sl rfl (by first | rfl | omega) | exact VLe.cap rfl (by first | rfl | omega) | exact VLe.im rfl rfl | omega | (refine fun id k h => ?_; simp only [hget] at h ⊢; (repeat' (split at h)) <;> first | (cases h; done) | (simp (disch := omega) only [if_pos, if_neg]; exact h)))))
    intro id k h
    rw [hget_fz]
    simp only [hget] at h ⊢
    split at h
    · rename_i e; subst e; cases h; rfl
    · cases h
  · exact ⟨Nat.zero_le _, ⟨by simp, fun y hy => by rw [List.eq_of_mem_replicate hy]; exact hp⟩, rfl⟩
  · rintro ⟨i, out⟩ ⟨hi, hr, hI⟩ K hK
    simp only at hi hr hI ⊢
    by_cases hc : i < M.length
    · have q1 := decide_eq_true (p := (i : Int) < (M.length : Int)) (by omega)
      have g1 := imR_get (w := w) (M := M) (i := i) (by omega)
      have g2 := nv_get (r := x) (j := i) (by omega)
      have hrow := hM.get hc
      have c1 := plus_s (p := p) (c := x.getD i 0) hp hp2 (hx.lt hc) hr hrow hw
      have hs : addRw p out (M.getD i []) (x.getD i 0) = actGo p (x.take (i + 1)) (M.take (i + 1)) (List.replicate w 0) := by
        rw [take_snoc (d := 0) (by omega), take_snoc (d := []) hc, actGo_snoc (by simp; omega), hI]
      have hrw := addRw_rw (p := p) hp (k := x.getD i 0) hr.1 hrow.1
      generalize addRw p out (M.getD i []) (x.getD i 0) = o2 at *
      generalize x.getD i 0 = c at *
      generalize M.getD i [] = r at *
      (repeat (first | refine DO.nil (by kernel_rfl) ?_ | (with_reducible first | apply oz1 | apply oz2 | apply oz3 | apply oz4 | apply oz5 | apply oz6 | apply oz7 | apply oz8 | apply oz9 | apply ozb | apply ozc | apply oze | apply ozf | apply ozg | apply ozh | apply ozi | apply ozj | apply ozk | refine ozd (by decide) ?_) | ((first | apply SO.call | apply DO.call); (iterate 3 (focus (simp (disch := omega) only [go_sem, ↓reduceIte, Nat.reduceEqDiff] <;> rfl))); (first | apply SCall.ofX | apply DCall.ofX); (focus (first | assumption)); (focus (simp (disch := omega) only [go_sem] <;> rfl))) | ((with_reducible first | apply SC.condB | apply SC.region | apply SO.run | apply DO.run); (focus (simp (disch := omega) only [go_sem, ↓reduceIte, Nat.reduceEqDiff, Nat.reduceLeDiff, Nat.reduceAdd, reduceCtorEq, if_pos, q1, gl, g1, g2, gx, List.getElem?_drop] <;> rfl)); (first | refine pickT ?_ | refine pickF ?_ | fail_if_success with_reducible refine pickA ?_)) | ((with_reducible refine SC.draw Tab.mixed ?_ ?_); (focus (first | rfl | simp (disch := omega) only [go_sem, ↓reduceIte, Nat.reduceEqDiff, Nat.reduceLT, Nat.reduceLeDiff, Nat.reduceAdd, Nat.reduceMul, Nat.reduceSub, reduceCtorEq, Nat.reduceBEq, Int.reduceToNat, Int.reducePow, if_pos, if_neg, q1, gl, g1, g2, gx, List.getElem?_drop]))) | (with_reducible apply SC.ops)))
      refine hK _ (i + 1, o2) ?_ ⟨by simp only; omega, hrw, hs⟩ (by simp only; omega)
      (refine Le.slots ?_ ?_ ?_ <;> (repeat' (first | (exact fun _ _ h => h) | exact Nat.le_refl _ | exact leSl_nil | refine leSl_cons (by simp (disch := omega) only [go_sem, ↓reduceIte, Nat.reduceEqDiff, reduceCtorEq] <;> rfl) ?_ ?_ | exact VLe.junk _ | exact VLe.refl rfl | exact VLe.nil_sl _ _ _ | exact VLe.int (by first | rfl | omega | (dsimp only; omega)) | exact VLe.bool rfl | exact VLe.sl rfl (by first | rfl | omega) | exact VLe.cap rfl (by first | rfl | omega) | exact VLe.im rfl rfl | omega | (refine fun id k h => ?_; simp only [hget] at h ⊢; (repeat' (split at h)) <;> first | (cases h; done) | (simp (disch := omega) only [if_pos, if_neg]; exact h)))))
    · have q1 := decide_eq_false (p := (i : Int) < (M.length : Int)) (by omega)
      have hin : i = M.length := by omega
      subst hin
      rw [List.take_of_length_le (by omega), List.take_of_length_le (Nat.le_refl _)] at hI
      (repeat (first | refine DO.nil (by kernel_rfl) ?_ | (with_reducible first | apply oz1 | apply oz2 | apply oz3 | apply oz4 | apply oz5 | apply oz6 | apply oz7 | apply oz8 | apply oz9 | apply ozb | apply ozc | apply oze | apply ozf | apply ozg | apply ozh | apply ozi | apply ozj | apply ozk | refine ozd (by decide) ?_) | ((first | apply SO.call | apply DO.call); (iterate 3 (focus (simp (disch := omega) only [go_sem, ↓reduceIte, Nat.reduceEqDiff, Nat.reduceLT, Nat.reduceLeDiff, Nat.reduceAdd, Nat.reduceMul, Nat.reduceSub, reduceCtorEq, Nat.reduceBEq, Int.reduceToNat, Int.reducePow, if_pos, if_neg, q1] <;> rfl))); (first | apply SCall.ofX | apply DCall.ofX); (focus (first | assumption)); (focus (simp (disch := omega) only [go_sem, ↓reduceIte, Nat.reduceEqDiff, Nat.reduceLT, Nat.reduceLeDiff, Nat.reduceAdd, Nat.reduceMul, Nat.reduceSub, reduceCtorEq, Nat.reduceBEq, Int.reduceToNat, Int.reducePow, if_pos, if_neg, q1] <;> rfl))) | ((with_reducible first | apply SC.condB | apply SC.region | apply SO.run | apply DO.run); (focus (simp (disch := omega) only [go_sem, ↓reduceIte, Nat.reduceEqDiff, Nat.reduceLT, reduceCtorEq, q1] <;> rfl)); (first | refine pickT ?_ | refine pickF ?_ | fail_if_success with_reducible refine pickA ?_)) | ((with_reducible refine SC.draw Tab.mixed ?_ ?_); (focus (first | rfl | simp (disch := omega) only [go_sem, ↓reduceIte, Nat.reduceEqDiff, Nat.reduceLT, Nat.reduceLeDiff, Nat.reduceAdd, Nat.reduceMul, Nat.reduceSub, reduceCtorEq, Nat.reduceBEq, Int.reduceToNat, Int.reducePow, if_pos, if_neg, q1]))) | (with_reducible apply SC.ops)))
      exact retQ_ret Try.results27 (by simp (disch := omega) only [go_sem, ↓reduceIte] <;> rfl) (by simp (disch := omega) only [go_sem] <;> rfl) (by rw [hI]; rfl)

/-- a matrix is the same as itself -/
theorem rsame_t {p n w : Nat} {M : List (List Nat)} (hM : MV p n w M) (hn : n ≤ 1000000) (hw : w ≤ 1000000) :
    Spec Try.prog 19 [md p w M, md p w M] (.sc (.bool true)) := by
  have hl := hM.1
  subst hl
  have gl := imR_len w M
  unfold md mv
  refine Spec.run Try.func19 rfl Try.ntmps19 (by simp) (by simp (disch := omega) only [go_sem, Nat.reduceAdd]; rfl) fun B hB => ?_
  (repeat (first | refine DO.nil (by kernel_rfl) ?_ | (with_reducible first | apply oz1 | apply oz2 | apply oz3 | apply oz4 | apply oz5 | apply oz6 | apply oz7 | apply oz8 | apply oz9 | apply ozb | apply ozc | apply oze | apply ozf | apply ozg | apply ozh | apply ozi | apply ozj | apply ozk | refine ozd (by decide) ?_) | ((first | apply SO.call | apply DO.call); (iterate 3 (focus (simp (disch := omega) only [go_sem, ↓reduceIte, Nat.reduceEqDiff, Nat.reduceLT, Nat.reduceLeDiff, Nat.reduceAdd, Nat.reduceMul, Nat.reduceSub, reduceCtorEq, Nat.reduceBEq, Int.reduceToNat, Int.reducePow, if_pos, if_neg, bne_self_eq_false] <;> rfl))); (first | apply SCall.ofX | apply DCall.ofX); (focus (first | assumption)); (focus (simp (disch := omega) only [go_sem, ↓reduceIte, Nat.reduceEqDiff, Nat.reduceLT, Nat.reduceLeDiff, Nat.reduceAdd, Nat.reduceMul, Nat.reduceSub, reduceCtorEq, Nat.reduceBEq, Int.reduceToNat, Int.reducePow, if_pos, if_neg, bne_self_eq_false] <;> rfl))) | ((with_reducible first | apply SC.condB | apply SC.region | apply SO.run | apply DO.run); (focus (simp (disch := omega) only [go_sem, ↓reduceIte, Nat.reduceEqDiff, Nat.reduceAdd, reduceCtorEq, bne_self_eq_false] <;> rfl)); (first | refine pickT ?_ | refine pickF ?_ | fail_if_success with_reducible refine pickA ?_)) | ((with_reducible refine SC.draw Tab.mixed ?_ ?_); (focus (first | rfl | simp (disch := omega) only [go_sem, ↓reduceIte, Nat.reduceEqDiff, Nat.reduceLT, Nat.reduceLeDiff, Nat.reduceAdd, Nat.reduceMul, Nat.reduceSub, reduceCtorEq, Nat.reduceBEq, Int.reduceToNat, Int.reducePow, if_pos, if_neg, bne_self_eq_false]))) | (with_reducible apply SC.ops)))
  refine SC.loop (fun i : Nat => ⟨[(2, .pt 0 0), (3, .pt 1 0), (5, .sc (.int .i64 i))], [(1, ⟨29, [.sc (.int .u64 p), .sc (.int .i64 w), .im (imR w (nR M)) M.length], false⟩), (0, ⟨29, [.sc (.int .u64 p), .sc (.int .i64 w), .im (imR w (nR M)) M.length], false⟩)], 2, 46⟩)
    (fun i => i ≤ M.length) (fun i => M.length - i) 0 ?_ ?_ ?_
  · (refine Le.slots ?_ ?_ ?_ <;> (repeat' (first | (exact fun _ _ h => h) | exact Nat.le_refl _ | exact leSl_nil | refine leSl_cons (by simp (disch := omega) only [go_sem, ↓reduceIte, Nat.reduceEqDiff] <;> rfl) ?_ ?_ | exact VLe.junk _ | exact VLe.refl rfl | exact VLe.nil_sl _ _ _ | exact VLe.int (by first | rfl | omega | (dsimp only; omega)) | exact VLe.bool rfl | exact VLe.sl rfl (by first | rfl | omega) | exact VLe.cap rfl (by first | rfl | omega) | exact VLe.im rfl rfl | omega | (refine fun id k h => ?_; simp only [hget] at h ⊢; (repeat' (split at h)) <;> first | (cases h; done) | (simp (disch := omega) only [if_pos, if_neg]; exact h)))))
  · exact Nat.zero_le _
  · intro i hi K hK
    by_cases hc : i < M.length
    · have q1 := decide_eq_true (p := (i : Int) < (M.length : Int)) (by omega)
      have g1 := imR_get (w := w) (M := M) (i := i) (by omega)
      have hrow := hM.get hc
      have c1 := rrow_t hrow.1 hw
      generalize M.getD i [] = r at *
      (repeat (first | refine DO.nil (by kernel_rfl) ?_ | (with_reducible first | apply oz1 | apply oz2 | apply oz3 | apply oz4 | apply oz5 | apply oz6 | apply oz7 | apply oz8 | apply oz9 | apply ozb | apply ozc | apply oze | apply ozf | apply ozg | apply ozh | apply ozi | apply ozj | apply ozk | refine ozd (by decide) ?_) | ((first | apply SO.call | apply DO.call); (iterate 3 (focus (simp (disch := omega) only [go_sem, ↓reduceIte, Nat.reduceEqDiff] <;> rfl))); (first | apply SCall.ofX | apply DCall.ofX); (focus (first | assumption)); (focus (simp (disch := omega) only [go_sem] <;> rfl))) | ((with_reducible first | apply SC.condB | apply SC.region | apply SO.run | apply DO.run); (focus (simp (disch := omega) only [go_sem, ↓reduceIte, Nat.reduceEqDiff, Nat.reduceLT, reduceCtorEq, if_pos, q1, gl, g1, Bool.not_true, List.getElem?_drop] <;> rfl)); (first | refine pickT ?_ | refine pickF ?_ | fail_if_success with_reducible refine pickA ?_)) | ((with_reducible refine SC.draw Tab.mixed ?_ ?_); (focus (first | rfl | simp (disch := omega) only [go_sem, ↓reduceIte, Nat.reduceEqDiff, Nat.reduceLT, Nat.reduceLeDiff, Nat.reduceAdd, Nat.reduceMul, Nat.reduceSub, reduceCtorEq, Nat.reduceBEq, Int.reduceToNat, Int.reducePow, if_pos, if_neg, q1, gl, g1, Bool.not_true, List.getElem?_drop]))) | (with_reducible apply SC.ops)))
      refine hK _ (i + 1) ?_ (by omega) (by omega)
      (refine Le.slots ?_ ?_ ?_ <;> (repeat' (first | (exact fun _ _ h => h) | exact Nat.le_refl _ | exact leSl_nil | refine leSl_cons (by simp (disch := omega) only [go_sem, ↓reduceIte, Nat.reduceEqDiff] <;> rfl) ?_ ?_ | exact VLe.junk _ | exact VLe.refl rfl | exact VLe.nil_sl _ _ _ | exact VLe.int (by first | rfl | omega | (dsimp only; omega)) | exact VLe.bool rfl | exact VLe.sl rfl (by first | rfl | omega) | exact VLe.cap rfl (by first | rfl | omega) | exact VLe.im rfl rfl | omega | (refine fun id k h => ?_; simp only [hget] at h ⊢; (repeat' (split at h)) <;> first | (cases h; done) | (simp (disch := omega) only [if_pos, if_neg]; exact h)))))
    · have q1 := decide_eq_false (p := (i : Int) < (M.length : Int)) (by omega)
      (repeat (first | refine DO.nil (by kernel_rfl) ?_ | (with_reducible first | apply oz1 | apply oz2 | apply oz3 | apply oz4 | apply oz5 | apply oz6 | apply oz7 | apply oz8 | apply oz9 | apply ozb | apply ozc | apply oze | apply ozf | apply ozg | apply ozh | apply ozi | apply ozj | apply ozk | refine ozd (by decide) ?_) | ((first | apply SO.call | apply DO.call); (iterate 3 (focus (simp (disch := omega) only [go_sem, ↓reduceIte, Nat.reduceEqDiff, Nat.reduceLT, Nat.reduceLeDiff, Nat.reduceAdd, Nat.reduceMul, Nat.reduceSub, reduceCtorEq, Nat.reduceBEq, Int.reduceToNat, Int.reducePow, if_pos, if_neg, q1] <;> rfl))); (first | apply SCall.ofX | apply DCall.ofX); (focus (first | assumption)); (focus (simp (disch := omega) only [go_sem, ↓reduceIte, Nat.reduceEqDiff, Nat.reduceLT, Nat.reduceLeDiff, Nat.reduceAdd, Nat.reduceMul, Nat.reduceSub, reduceCtorEq, Nat.reduceBEq, Int.reduceToNat, Int.reducePow, if_pos, if_neg, q1] <;> rfl))) | ((with_reducible first | apply SC.condB | apply SC.region | apply SO.run | apply DO.run); (focus (simp (disch := omega) only [go_sem, ↓reduceIte, Nat.reduceEqDiff, reduceCtorEq, q1] <;> rfl)); (first | refine pickT ?_ | refine pickF ?_ | fail_if_success with_reducible refine pickA ?_)) | ((with_reducible refine SC.draw Tab.mixed ?_ ?_); (focus (first | rfl | simp (disch := omega) only [go_sem, ↓reduceIte, Nat.reduceEqDiff, Nat.reduceLT, Nat.reduceLeDiff, Nat.reduceAdd, Nat.reduceMul, Nat.reduceSub, reduceCtorEq, Nat.reduceBEq, Int.reduceToNat, Int.reducePow, if_pos, if_neg, q1]))) | (with_reducible apply SC.ops)))
      exact retQ_ret Try.results19 (by simp (disch := omega) only [go_sem, ↓reduceIte] <;> rfl) (by simp (disch := omega) only [go_sem] <;> rfl) rfl
end Go.Proofs.Ytpbomhmflllemaa

/- The reference: Valid, Turned. -/
namespace Go.Proofs.Ytpbomhmflllemaa
open Go.RowKit

set_option maxRecDepth 4000 in
set_option maxHeartbeats 1000000 in
theorem rvalid_t {p n w : Nat} {M : List (List Nat)} (hpr : Pr p) (hp2 : p < 2147483648) (hM : MV p n w M) (hn : n ≤ 1000000) (hw : w ≤ 1000000) :
    Spec Try.prog 20 [md p w M] (.sc (.bool true)) := by
  have hl := hM.1
  subst hl
  have gl := imR_len w M
  have c0 := rPrime_t p hpr hp2
  have q0 : decide ((0 : Int) ≤ (w : Int)) = true := decide_eq_true (by omega)
  unfold md mv
  refine Spec.run Try.func20 rfl Try.ntmps20 (by simp) (by simp (disch := omega) only [go_sem]; rfl) fun B hB => ?_
  (repeat (first | refine DO.nil (by kernel_rfl) ?_ | (with_reducible first | apply oz1 | apply oz2 | apply oz3 | apply oz4 | apply oz5 | apply oz6 | apply oz7 | apply oz8 | apply oz9 | apply ozb | apply ozc | apply oze | apply ozf | apply ozg | apply ozh | apply ozi | apply ozj | apply ozk | refine ozd (by decide) ?_) | ((first | apply SO.call | apply DO.call); (iterate 3 (focus (simp (disch := omega) only [go_sem, ↓reduceIte, Nat.reduceEqDiff, Nat.reduceLT, Nat.reduceLeDiff, Nat.reduceAdd, Nat.reduceMul, Nat.reduceSub, reduceCtorEq, Nat.reduceBEq, Int.reduceToNat, Int.reducePow, if_pos, if_neg] <;> rfl))); (first | apply SCall.ofX | apply DCall.ofX); (focus (first | assumption)); (focus (simp (disch := omega) only [go_sem, ↓reduceIte, Nat.reduceEqDiff, Nat.reduceLT, Nat.reduceLeDiff, Nat.reduceAdd, Nat.reduceMul, Nat.reduceSub, reduceCtorEq, Nat.reduceBEq, Int.reduceToNat, Int.reducePow, if_pos, if_neg] <;> rfl))) | ((with_reducible first | apply SC.condB | apply SC.region | apply SO.run | apply DO.run); (focus (simp (disch := omega) only [go_sem, ↓reduceIte] <;> rfl)); (first | refine pickT ?_ | refine pickF ?_ | fail_if_success with_reducible refine pickA ?_)) | ((with_reducible refine SC.draw Tab.mixed ?_ ?_); (focus (first | rfl | simp (disch := omega) only [go_sem, ↓reduceIte, Nat.reduceEqDiff, Nat.reduceLT, Nat.reduceLeDiff, Nat.reduceAdd, Nat.reduceMul, Nat.reduceSub, reduceCtorEq, Nat.reduceBEq, Int.reduceToNat, Int.reducePow, if_pos, if_neg]))) | (with_reducible apply SC.ops)))
  refine SC.loop (fun i : Nat => ⟨[(1, .pt 0 0), (3, .sc (.int .i64 i))], [(0, ⟨29, [.sc (.int .u64 p), .sc (.int .i64 w), .im (imR w (nR M)) M.length], false⟩)], 1, 50⟩)
    (fun i => i ≤ M.length) (fun i => M.length - i) 0 ?_ ?_ ?_
  · (refine Le.slots ?_ ?_ ?_ <;> (repeat' (first | (exact fun _ _ h => h) | exact Nat.le_refl _ | exact leSl_nil | refine leSl_cons (by simp (disch := omega) only [go_sem, ↓reduceIte, Nat.reduceEqDiff] <;> rfl) ?_ ?_ | exact VLe.junk _ | exact VLe.refl rfl | exact VLe.nil_sl _ _ _ | exact VLe.int (by first | rfl | omega | (dsimp only; omega)) | exact VLe.bool rfl | exact VLe.sl rfl (by first | rfl | omega) | exact VLe.cap rfl (by first | rfl | omega) | exact VLe.im rfl rfl | omega | (refine fun id k h => ?_; simp only [hget] at h ⊢; (repeat' (split at h)) <;> first | (cases h; done) | (simp (disch := omega) only [if_pos, if_neg]; exact h)))))
  · exact Nat.zero_le _
  · intro i hi K hK
    by_cases hc : i < M.length
    · have q1 := decide_eq_true (p := (i : Int) < (M.length : Int)) (by omega)
      have g1 := imR_get (w := w) (M := M) (i := i) (by omega)
      have hrow := hM.get hc
      have g2 := nv_len (M.getD i [])
      rw [hrow.1] at g2
      generalize M.getD i [] = r at *
      (repeat (first | refine DO.nil (by kernel_rfl) ?_ | (with_reducible first | apply oz1 | apply oz2 | apply oz3 | apply oz4 | apply oz5 | apply oz6 | apply oz7 | apply oz8 | apply oz9 | apply ozb | apply ozc | apply oze | apply ozf | apply ozg | apply ozh | apply ozi | apply ozj | apply ozk | refine ozd (by decide) ?_) | ((first | apply SO.call | apply DO.call); (iterate 3 (focus (simp (disch := omega) only [go_sem, ↓reduceIte, Nat.reduceEqDiff, Nat.reduceLT, Nat.reduceLeDiff, Nat.reduceAdd, Nat.reduceMul, Nat.reduceSub, reduceCtorEq, Nat.reduceBEq, Int.reduceToNat, Int.reducePow, if_pos, if_neg, q1, gl, g1, g2, bne_self_eq_false, List.getElem?_drop] <;> rfl))); (first | apply SCall.ofX | apply DCall.ofX); (focus (first | assumption)); (focus (simp (disch := omega) only [go_sem, ↓reduceIte, Nat.reduceEqDiff, Nat.reduceLT, Nat.reduceLeDiff, Nat.reduceAdd, Nat.reduceMul, Nat.reduceSub, reduceCtorEq, Nat.reduceBEq, Int.reduceToNat, Int.reducePow, if_pos, if_neg, q1, gl, g1, g2, bne_self_eq_false, List.getElem?_drop] <;> rfl))) | ((with_reducible first | apply SC.condB | apply SC.region | apply SO.run | apply DO.run); (focus (simp (disch := omega) only [go_sem, ↓reduceIte, Nat.reduceEqDiff, reduceCtorEq, if_pos, q1, gl, g1, bne_self_eq_false, List.getElem?_drop] <;> rfl)); (first | refine pickT ?_ | refine pickF ?_ | fail_if_success with_reducible refine pickA ?_)) | ((with_reducible refine SC.draw Tab.mixed ?_ ?_); (focus (first | rfl | simp (disch := omega) only [go_sem, ↓reduceIte, Nat.reduceEqDiff, Nat.reduceLT, Nat.reduceLeDiff, Nat.reduceAdd, Nat.reduceMul, Nat.reduceSub, reduceCtorEq, Nat.reduceBEq, Int.reduceToNat, Int.reducePow, if_pos, if_neg, q1, gl, g1, g2, bne_self_eq_false, List.getElem?_drop]))) | (with_reducible apply SC.ops)))
      refine SC.loop (fun k : Nat => ⟨[(1, .pt 0 0), (3, .sc (.int .i64 i)), (4, .sc (.int .i64 k))], [(0, ⟨29, [.sc (.int .u64 p), .sc (.int .i64 w), .im (imR w (nR M)) M.length], false⟩)], 1, 50⟩)
        (fun k => k ≤ w) (fun k => w - k) 0 ?_ ?_ ?_
      · (refine Le.slots ?_ ?_ ?_ <;> (repeat' (first | (exact fun _ _ h => h) | exact Nat.le_refl _ | exact leSl_nil | refine leSl_cons (by simp (disch := omega) only [go_sem, ↓reduceIte, Nat.reduceEqDiff] <;> rfl) ?_ ?_ | exact VLe.junk _ | exact VLe.refl rfl | exact VLe.nil_sl _ _ _ | exact VLe.int (by first | rfl | omega | (dsimp only; omega)) | exact VLe.bool rfl | exact VLe.sl rfl (by first | rfl | omega) | exact VLe.cap rfl (by first | rfl | omega) | exact VLe.im rfl rfl | omega | (refine fun id k h => ?_; simp only [hget] at h ⊢; (repeat' (split at h)) <;> first | (cases h; done) | (simp (disch := omega) only [if_pos, if_neg]; exact h)))))
      · exact Nat.zero_le _
      · intro k hk K2 hK2
        by_cases hkw : k < w
        · have q2 := decide_eq_true (p := (k : Int) < (w : Int)) (by omega)
          have g3 := nv_get (r := r) (j := k) (by rw [hrow.1]; exact hkw)
          have hlt := hrow.lt hkw
          have q3 : decide ((p : Int) ≤ ((r.getD k 0 : Nat) : Int)) = false := decide_eq_false (by omega)
          generalize r.getD k 0 = x at *
          (repeat (first | refine DO.nil (by kernel_rfl) ?_ | (with_reducible first | apply oz1 | apply oz2 | apply oz3 | apply oz4 | apply oz5 | apply oz6 | apply oz7 | apply oz8 | apply oz9 | apply ozb | apply ozc | apply oze | apply ozf | apply ozg | apply ozh | apply ozi | apply ozj | apply ozk | refine ozd (by decide) ?_) | ((first | apply SO.call | apply DO.call); (iterate 3 (focus (simp (disch := omega) only [go_sem, ↓reduceIte, Nat.reduceEqDiff, Nat.reduceLT, Nat.reduceLeDiff, Nat.reduceAdd, Nat.reduceMul, Nat.reduceSub, reduceCtorEq, Nat.reduceBEq, Int.reduceToNat, Int.reducePow, if_pos, if_neg, q2, q3, gl, g1, g2, g3, List.getElem?_drop] <;> rfl))); (first | apply SCall.ofX | apply DCall.ofX); (focus (first | assumption)); (focus (simp (disch := omega) only [go_sem, ↓reduceIte, Nat.reduceEqDiff, Nat.reduceLT, Nat.reduceLeDiff, Nat.reduceAdd, Nat.reduceMul, Nat.reduceSub, reduceCtorEq, Nat.reduceBEq, Int.reduceToNat, Int.reducePow, if_pos, if_neg, q2, q3, gl, g1, g2, g3, List.getElem?_drop] <;> rfl))) | ((with_reducible first | apply SC.condB | apply SC.region | apply SO.run | apply DO.run); (focus (simp (disch := omega) only [go_sem, ↓reduceIte, Nat.reduceEqDiff, reduceCtorEq, if_pos, q2, q3, gl, g1, g2, g3, List.getElem?_drop] <;> rfl)); (first | refine pickT ?_ | refine pickF ?_ | fail_if_success with_reducible refine pickA ?_)) | ((with_reducible refine SC.draw Tab.mixed ?_ ?_); (focus (first | rfl | simp (disch := omega) only [go_sem, ↓reduceIte, Nat.reduceEqDiff, Nat.reduceLT, Nat.reduceLeDiff, Nat.reduceAdd, Nat.reduceMul, Nat.reduceSub, reduceCtorEq, Nat.reduceBEq, Int.reduceToNat, Int.reducePow, if_pos, if_neg, q2, q3, gl, g1, g2, g3, List.getElem?_drop]))) | (with_reducible apply SC.ops)))
          refine hK2 _ (k + 1) ?_ (by omega) (by omega)
          (refine Le.slots ?_ ?_ ?_ <;> (repeat' (first | (exact fun _ _ h => h) | exact Nat.le_refl _ | exact leSl_nil | refine leSl_cons (by simp (disch := omega) only [go_sem, ↓reduceIte, Nat.reduceEqDiff] <;> rfl) ?_ ?_ | exact VLe.junk _ | exact VLe.refl rfl | exact VLe.nil_sl _ _ _ | exact VLe.int (by first | rfl | omega | (dsimp only; omega)) | exact VLe.bool rfl | exact VLe.sl rfl (by first | rfl | omega) | exact VLe.cap rfl (by first | rfl | omega) | exact VLe.im rfl rfl | omega | (refine fun id k h => ?_; simp only [hget] at h ⊢; (repeat' (split at h)) <;> first | (cases h; done) | (simp (disch := omega) only [if_pos, if_neg]; exact h)))))
        · have q2 := decide_eq_false (p := (k : Int) < (w : Int)) (by omega)
          (repeat (first | refine DO.nil (by kernel_rfl) ?_ | (with_reducible first | apply oz1 | apply oz2 | apply oz3 | apply oz4 | apply oz5 | apply oz6 | apply oz7 | apply oz8 | apply oz9 | apply ozb | apply ozc | apply oze | apply ozf | apply ozg | apply ozh | apply ozi | apply ozj | apply ozk | refine ozd (by decide) ?_) | ((first | apply SO.call | apply DO.call); (iterate 3 (focus (simp (disch := omega) only [go_sem, ↓reduceIte, Nat.reduceEqDiff, Nat.reduceLT, Nat.reduceLeDiff, Nat.reduceAdd, Nat.reduceMul, Nat.reduceSub, reduceCtorEq, Nat.reduceBEq, Int.reduceToNat, Int.reducePow, if_pos, if_neg, q2, gl, g1, g2, List.getElem?_drop] <;> rfl))); (first | apply SCall.ofX | apply DCall.ofX); (focus (first | assumption)); (focus (simp (disch := omega) only [go_sem, ↓reduceIte, Nat.reduceEqDiff, Nat.reduceLT, Nat.reduceLeDiff, Nat.reduceAdd, Nat.reduceMul, Nat.reduceSub, reduceCtorEq, Nat.reduceBEq, Int.reduceToNat, Int.reducePow, if_pos, if_neg, q2, gl, g1, g2, List.getElem?_drop] <;> rfl))) | ((with_reducible first | apply SC.condB | apply SC.region | apply SO.run | apply DO.run); (focus (simp (disch := omega) only [go_sem, ↓reduceIte, Nat.reduceEqDiff, reduceCtorEq, if_pos, q2, gl, g1, List.getElem?_drop] <;> rfl)); (first | refine pickT ?_ | refine pickF ?_ | fail_if_success with_reducible refine pickA ?_)) | ((with_reducible refine SC.draw Tab.mixed ?_ ?_); (focus (first | rfl | simp (disch := omega) only [go_sem, ↓reduceIte, Nat.reduceEqDiff, Nat.reduceLT, Nat.reduceLeDiff, Nat.reduceAdd, Nat.reduceMul, Nat.reduceSub, reduceCtorEq, Nat.reduceBEq, Int.reduceToNat, Int.reducePow, if_pos, if_neg, q2, gl, g1, g2, List.getElem?_drop]))) | (with_reducible apply SC.ops)))
          refine hK _ (i + 1) ?_ (by omega) (by omega)
          (refine Le.slots ?_ ?_ ?_ <;> (repeat' (first | (exact fun _ _ h => h) | exact Nat.le_refl _ | exact leSl_nil | refine leSl_cons (by simp (disch := omega) only [go_sem, ↓reduceIte, Nat.reduceEqDiff] <;> rfl) ?_ ?_ | exact VLe.junk _ | exact VLe.refl rfl | exact VLe.nil_sl _ _ _ | exact VLe.int (by first | rfl | omega | (dsimp only; omega)) | exact VLe.bool rfl | exact VLe.sl rfl (by first | rfl | omega) | exact VLe.cap rfl (by first | rfl | omega) | exact VLe.im rfl rfl | omega | (refine fun id k h => ?_; simp only [hget] at h ⊢; (repeat' (split at h)) <;> first | (cases h; done) | (simp (disch := omega) only [if_pos, if_neg]; exact h)))))
    · have q1 := decide_eq_false (p := (i : Int) < (M.length : Int)) (by omega)
      (repeat (first | refine DO.nil (by kernel_rfl) ?_ | (with_reducible first | apply oz1 | apply oz2 | apply oz3 | apply oz4 | apply oz5 | apply oz6 | apply oz7 | apply oz8 | apply oz9 | apply ozb | apply ozc | apply oze | apply ozf | apply ozg | apply ozh | apply ozi | apply ozj | apply ozk | refine ozd (by decide) ?_) | ((first | apply SO.call | apply DO.call); (iterate 3 (focus (simp (disch := omega) only [go_sem, ↓reduceIte, Nat.reduceEqDiff] <;> rfl))); (first | apply SCall.ofX | apply DCall.ofX); (focus (first | assumption)); (focus (simp (disch := omega) only [go_sem] <;> rfl))) | ((with_reducible first | apply SC.condB | apply SC.region | apply SO.run | apply DO.run); (focus (simp (disch := omega) only [go_sem, ↓reduceIte, Nat.reduceEqDiff, Nat.reduceLT, reduceCtorEq, q1, q0] <;> rfl)); (first | refine pickT ?_ | refine pickF ?_ | fail_if_success with_reducible refine pickA ?_)) | ((with_reducible refine SC.draw Tab.mixed ?_ ?_); (focus (first | rfl | simp (disch := omega) only [go_sem, ↓reduceIte, Nat.reduceEqDiff, Nat.reduceLT, Nat.reduceLeDiff, Nat.reduceAdd, Nat.reduceMul, Nat.reduceSub, reduceCtorEq, Nat.reduceBEq, Int.reduceToNat, Int.reducePow, if_pos, if_neg, q1, q0]))) | (with_reducible apply SC.ops)))
      exact retQ_ret Try.results20 (by simp (disch := omega) only [go_sem, ↓reduceIte] <;> rfl) (by simp (disch := omega) only [go_sem] <;> rfl) rfl

theorem turn_snoc {M : List (List Nat)} {k : Nat} : imR M.length (nR (turnL M k)) ++ [V.im (nv (M.map fun r => r.getD k 0)) M.length] = imR M.length (nR (turnL M (k + 1))) := by
  rw [imR_snoc]
  unfold turnL
  rw [List.range_succ, List.map_append]
  rfl
theorem col_snoc {M : List (List Nat)} {i k : Nat} (h : i < M.length) : nv ((M.take i).map fun r => r.getD k 0) ++ [V.sc (.int .u64 ((M.getD i []).getD k 0 : Nat))] = nv ((M.take (i + 1)).map fun r => r.getD k 0) := by
  rw [take_snoc (d := []) h]; simp [nv]
theorem turnL_len {M : List (List Nat)} {k : Nat} : (turnL M k).length = k := by simp [turnL]

set_option maxRecDepth 4000 in
set_option maxHeartbeats 1000000 in
theorem rturned_s {p n w : Nat} {M : List (List Nat)} (hM : MV p n w M) (hn : n ≤ 1000000) (hw : w ≤ 1000000) :
    Spec Try.prog 29 [md p w M] (md p n (turnL M w)) := by
  have hl := hM.1
  subst hl
  have gl := imR_len w M
  have gw := turnL_len (M := M) (k := w)
  unfold md mv
  rw [gw]
  refine Spec.run Try.func29 rfl Try.ntmps29 (by simp) (by simp (disch := omega) only [go_sem]; rfl) fun B hB => ?_
  (repeat (first | refine DO.nil (by kernel_rfl) ?_ | (with_reducible first | apply oz1 | apply oz2 | apply oz3 | apply oz4 | apply oz5 | apply oz6 | apply oz7 | apply oz8 | apply oz9 | apply ozb | apply ozc | apply oze | apply ozf | apply ozg | apply ozh | apply ozi | apply ozj | apply ozk | refine ozd (by decide) ?_) | ((first | apply SO.call | apply DO.call); (iterate 3 (focus (simp (disch := omega) only [go_sem, ↓reduceIte, Nat.reduceEqDiff, Nat.reduceLT, Nat.reduceLeDiff, Nat.reduceAdd, Nat.reduceMul, Nat.reduceSub, reduceCtorEq, Nat.reduceBEq, Int.reduceToNat, Int.reducePow, if_pos, if_neg] <;> rfl))); (first | apply SCall.ofX | apply DCall.ofX); (focus (first | assumption)); (focus (simp (disch := omega) only [go_sem, ↓reduceIte, Nat.reduceEqDiff, Nat.reduceLT, Nat.reduceLeDiff, Nat.reduceAdd, Nat.reduceMul, Nat.reduceSub, reduceCtorEq, Nat.reduceBEq, Int.reduceToNat, Int.reducePow, if_pos, if_neg] <;> rfl))) | ((with_reducible first | apply SC.condB | apply SC.region | apply SO.run | apply DO.run); (focus (simp (disch := omega) only [go_sem, ↓reduceIte, Nat.reduceEqDiff, Nat.reduceLeDiff, Nat.reduceAdd, reduceCtorEq] <;> rfl)); (first | refine pickT ?_ | refine pickF ?_ | fail_if_success with_reducible refine pickA ?_)) | ((with_reducible refine SC.draw Tab.mixed ?_ ?_); (focus (first | rfl | simp (disch := omega) only [go_sem, ↓reduceIte, Nat.reduceEqDiff, Nat.reduceLT, Nat.reduceLeDiff, Nat.reduceAdd, Nat.reduceMul, Nat.reduceSub, reduceCtorEq, Nat.reduceBEq, Int.reduceToNat, Int.reducePow, if_pos, if_neg]))) | (with_reducible apply SC.ops)))
  refine SC.loop (fun k : Nat => ⟨[(1, .pt 0 0), (2, .pt 1 0), (3, .pt 2 0), (4, .sc (.int .i64 k))], [(2, ⟨29, [.sc (.int .u64 p), .sc (.int .i64 M.length), .sl 3 0 k 1 none], false⟩), (3, ⟨44, imR M.length (nR (turnL M k)), false⟩), (1, ⟨29, [.sc (.int .u64 0), .sc (.int .i64 0), .sc (.slice none 0 0)], false⟩), (0, ⟨29, [.sc (.int .u64 p), .sc (.int .i64 w), .im (imR w (nR M)) M.length], false⟩)], 4, 45⟩)
    (fun k => k ≤ w) (fun k => w - k) 0 ?_ ?_ ?_
  · refine nilRow (pre := [.sc (.int .u64 p), .sc (.int .i64 M.length)]) 2 3 hB (by simp (disch := omega) only [go_sem, ↓reduceIte] <;> rfl) rfl (by omega) ?_ (Nat.zero_le _) ?_
    · exact ⟨⟨by omega, by omega, by omega, by simp, by simp (disch := omega) only [go_sem, ↓reduceIte, Nat.reduceEqDiff] <;> rfl, rfl⟩, ⟨by omega, by omega, by omega, by simp, by simp (disch := omega) only [go_sem, ↓reduceIte, reduceCtorEq] <;> rfl, rfl⟩, trivial⟩
    · (repeat' (first | exact trivial | refine mapSl_cons (by simp (disch := omega) only [go_sem, ↓reduceIte, Nat.reduceEqDiff] <;> rfl) ?_ ?_ | exact VMap.junk _ | exact VMap.sc _ | exact VMap.clo rfl | exact VMap.sl rfl (by omega) | exact VMap.cap rfl (by omega) | exact VMap.pt rfl (by omega) | exact VMap.nil_sl _ _ _ | exact VMap.int (by first | rfl | omega | (dsimp only; omega))))
  · exact Nat.zero_le _
  · intro k hk K hK
    have u1 := imR_len M.length (turnL M k)
    rw [turnL_len] at u1
    have u2 : (imR M.length (nR (turnL M k))).take k = imR M.length (nR (turnL M k)) := List.take_of_length_le (by omega)
    by_cases hkw : k < w
    · have q1 := decide_eq_true (p := (k : Int) < (w : Int)) (by omega)
      (repeat (first | refine DO.nil (by kernel_rfl) ?_ | (with_reducible first | apply oz1 | apply oz2 | apply oz3 | apply oz4 | apply oz5 | apply oz6 | apply oz7 | apply oz8 | apply oz9 | apply ozb | apply ozc | apply oze | apply ozf | apply ozg | apply ozh | apply ozi | apply ozj | apply ozk | refine ozd (by decide) ?_) | ((first | apply SO.call | apply DO.call); (iterate 3 (focus (simp (disch := omega) only [go_sem, ↓reduceIte, Nat.reduceEqDiff, Nat.reduceLT, Nat.reduceLeDiff, Nat.reduceAdd, Nat.reduceMul, Nat.reduceSub, reduceCtorEq, Nat.reduceBEq, Int.reduceToNat, Int.reducePow, if_pos, if_neg, q1] <;> rfl))); (first | apply SCall.ofX | apply DCall.ofX); (focus (first | assumption)); (focus (simp (disch := omega) only [go_sem, ↓reduceIte, Nat.reduceEqDiff, Nat.reduceLT, Nat.reduceLeDiff, Nat.reduceAdd, Nat.reduceMul, Nat.reduceSub, reduceCtorEq, Nat.reduceBEq, Int.reduceToNat, Int.reducePow, if_pos, if_neg, q1] <;> rfl))) | ((with_reducible first | apply SC.condB | apply SC.region | apply SO.run | apply DO.run); (focus (simp (disch := omega) only [go_sem, ↓reduceIte, Nat.reduceEqDiff, Nat.reduceLeDiff, Nat.reduceAdd, reduceCtorEq, q1] <;> rfl)); (first | refine pickT ?_ | refine pickF ?_ | fail_if_success with_reducible refine pickA ?_)) | ((with_reducible refine SC.draw Tab.mixed ?_ ?_); (focus (first | rfl | simp (disch := omega) only [go_sem, ↓reduceIte, Nat.reduceEqDiff, Nat.reduceLT, Nat.reduceLeDiff, Nat.reduceAdd, Nat.reduceMul, Nat.reduceSub, reduceCtorEq, Nat.reduceBEq, Int.reduceToNat, Int.reducePow, if_pos, if_neg, q1]))) | (with_reducible apply SC.ops)))
      refine SC.loop (fun y : Nat × Nat × Nat => ⟨[(1, .pt 0 0), (2, .pt 1 0), (3, .pt 2 0), (4, .sc (.int .i64 k)), (5, .sl y.2.1 0 y.1 1 none), (6, .sc (.int .i64 y.1))], [(y.2.1, ⟨26, nv ((M.take y.1).map fun r => r.getD k 0), false⟩), (2, ⟨29, [.sc (.int .u64 p), .sc (.int .i64 M.length), .sl 3 0 k 1 none], false⟩), (3, ⟨44, imR M.length (nR (turnL M k)), false⟩), (1, ⟨29, [.sc (.int .u64 0), .sc (.int .i64 0), .sc (.slice none 0 0)], false⟩), (0, ⟨29, [.sc (.int .u64 p), .sc (.int .i64 w), .im (imR w (nR M)) M.length], false⟩)], y.2.2, 45⟩)
        (fun y => y.1 ≤ M.length ∧ 3 < y.2.1 ∧ y.2.1 < y.2.2) (fun y => M.length - y.1) (0, 4, 5) ?_ ?_ ?_
      · (refine Le.slots ?_ ?_ ?_ <;> (repeat' (first | (exact fun _ _ h => h) | exact Nat.le_refl _ | exact leSl_nil | refine leSl_cons (by simp (disch := omega) only [go_sem, ↓reduceIte, Nat.reduceEqDiff] <;> rfl) ?_ ?_ | exact VLe.junk _ | exact VLe.refl rfl | exact VLe.nil_sl _ _ _ | exact VLe.int (by first | rfl | omega | (dsimp only; omega)) | exact VLe.bool rfl | exact VLe.sl rfl (by first | rfl | omega) | exact VLe.cap rfl (by first | rfl | omega) | exact VLe.im rfl rfl | omega | (refine fun id k h => ?_; simp only [hget] at h ⊢; (repeat' (split at h)) <;> first | (cases h; done) | (simp (disch := omega) only [if_pos, if_neg]; exact h)))))
      · exact ⟨Nat.zero_le _, by simp, by simp⟩
      · rintro ⟨i, q, nx⟩ ⟨hi, hq0, hq⟩ K2 hK2
        simp only at hi hq0 hq ⊢
        have v1 := nv_len ((M.take i).map fun r => r.getD k 0)
        rw [List.length_map, List.length_take, Nat.min_eq_left hi] at v1
        have v2 : (nv ((M.take i).map fun r => r.getD k 0)).take i = nv ((M.take i).map fun r => r.getD k 0) := List.take_of_length_le (by omega)
        by_cases hc : i < M.length
        · have q2 := decide_eq_true (p := (i : Int) < (M.length : Int)) (by omega)
          have g1 := imR_get (w := w) (M := M) (i := i) (by omega)
          have hrow := hM.get hc
          have g2 := nv_get (r := M.getD i []) (j := k) (by rw [hrow.1]; exact hkw)
          have g3 := nv_len (M.getD i [])
          rw [hrow.1] at g3
          have g4 := col_snoc (M := M) (i := i) (k := k) hc
          generalize (M.getD i []).getD k 0 = x at *
          generalize M.getD i [] = r at *
          generalize nv ((M.take i).map fun r => r.getD k 0) = R0 at *
          generalize hR1 : nv ((M.take (i + 1)).map fun r => r.getD k 0) = R1 at *
          (repeat (first | refine DO.nil (by kernel_rfl) ?_ | (with_reducible first | apply oz1 | apply oz2 | apply oz3 | apply oz4 | apply oz5 | apply oz6 | apply oz7 | apply oz8 | apply oz9 | apply ozb | apply ozc | apply oze | apply ozf | apply ozg | apply ozh | apply ozi | apply ozj | apply ozk | refine ozd (by decide) ?_) | ((first | apply SO.call | apply DO.call); (iterate 3 (focus (simp (disch := omega) only [go_sem, ↓reduceIte, Nat.reduceEqDiff, Nat.reduceLT, Nat.reduceLeDiff, Nat.reduceAdd, Nat.reduceMul, Nat.reduceSub, reduceCtorEq, Nat.reduceBEq, Int.reduceToNat, Int.reducePow, if_pos, if_neg, q2, gl, g1, g2, g3, g4, v1, v2, List.getElem?_drop] <;> rfl))); (first | apply SCall.ofX | apply DCall.ofX); (focus (first | assumption)); (focus (simp (disch := omega) only [go_sem, ↓reduceIte, Nat.reduceEqDiff, Nat.reduceLT, Nat.reduceLeDiff, Nat.reduceAdd, Nat.reduceMul, Nat.reduceSub, reduceCtorEq, Nat.reduceBEq, Int.reduceToNat, Int.reducePow, if_pos, if_neg, q2, gl, g1, g2, g3, g4, v1, v2, List.getElem?_drop] <;> rfl))) | ((with_reducible first | apply SC.condB | apply SC.region | apply SO.run | apply DO.run); (focus (simp (disch := omega) only [go_sem, ↓reduceIte, Nat.reduceEqDiff, Nat.reduceLeDiff, reduceCtorEq, if_pos, if_neg, q2, gl, g1, g2, g3, g4, v1, v2, List.getElem?_drop] <;> rfl)); (first | refine pickT ?_ | refine pickF ?_ | fail_if_success with_reducible refine pickA ?_)) | ((with_reducible refine SC.draw Tab.mixed ?_ ?_); (focus (first | rfl | simp (disch := omega) only [go_sem, ↓reduceIte, Nat.reduceEqDiff, Nat.reduceLT, Nat.reduceLeDiff, Nat.reduceAdd, Nat.reduceMul, Nat.reduceSub, reduceCtorEq, Nat.reduceBEq, Int.reduceToNat, Int.reducePow, if_pos, if_neg, q2, gl, g1, g2, g3, g4, v1, v2, List.getElem?_drop]))) | (with_reducible apply SC.ops)))
          refine hK2 _ (i + 1, nx + 1, nx + 2) ?_ ⟨by simp only; omega, by simp only; omega, by simp only; omega⟩ (by simp only; omega)
          subst hR1
          (refine Le.slots ?_ ?_ ?_ <;> (repeat' (first | (exact fun _ _ h => h) | exact Nat.le_refl _ | exact leSl_nil | refine leSl_cons (by simp (disch := omega) only [go_sem, ↓reduceIte, Nat.reduceEqDiff] <;> rfl) ?_ ?_ | exact VLe.junk _ | exact VLe.refl rfl | exact VLe.nil_sl _ _ _ | exact VLe.int (by first | rfl | omega | (dsimp only; omega)) | exact VLe.bool rfl | exact VLe.sl rfl (by first | rfl | omega) | exact VLe.cap rfl (by first | rfl | omega) | exact VLe.im rfl rfl | omega | (refine fun id k h => ?_; simp only [hget] at h ⊢; (repeat' (split at h)) <;> first | (cases h; done) | (simp (disch := omega) only [if_pos, if_neg]; exact h)))))
        · have q2 := decide_eq_false (p := (i : Int) < (M.length : Int)) (by omega)
          have hin : i = M.length := by omega
          subst hin
          have g4 := turn_snoc (M := M) (k := k)
          rw [List.take_of_length_le (Nat.le_refl _)] at v1 v2 ⊢
          have v3 := nv_clo (M.map fun r => r.getD k 0)
          generalize nv (M.map fun r => r.getD k 0) = R0 at *
          (repeat (first | refine DO.nil (by kernel_rfl) ?_ | (with_reducible first | apply oz1 | apply oz2 | apply oz3 | apply oz4 | apply oz5 | apply oz6 | apply oz7 | apply oz8 | apply oz9 | apply ozb | apply ozc | apply oze | apply ozf | apply ozg | apply ozh | apply ozi | apply ozj | apply ozk | refine ozd (by decide) ?_) | ((first | apply SO.call | apply DO.call); (iterate 3 (focus (simp (disch := omega) only [go_sem, ↓reduceIte, Nat.reduceEqDiff, Nat.reduceLT, Nat.reduceLeDiff, Nat.reduceAdd, Nat.reduceMul, Nat.reduceSub, reduceCtorEq, Nat.reduceBEq, Int.reduceToNat, Int.reducePow, if_pos, if_neg, q2, u1, u2] <;> rfl))); (first | apply SCall.ofX | apply DCall.ofX); (focus (first | assumption)); (focus (simp (disch := omega) only [go_sem, ↓reduceIte, Nat.reduceEqDiff, Nat.reduceLT, Nat.reduceLeDiff, Nat.reduceAdd, Nat.reduceMul, Nat.reduceSub, reduceCtorEq, Nat.reduceBEq, Int.reduceToNat, Int.reducePow, if_pos, if_neg, q2, u1, u2] <;> rfl))) | ((with_reducible first | apply SC.condB | apply SC.region | apply SO.run | apply DO.run); (focus (simp (disch := omega) only [go_sem, ↓reduceIte, Nat.reduceEqDiff, Nat.reduceLeDiff, Nat.reduceAdd, reduceCtorEq, if_pos, if_neg, q2, u1, u2] <;> rfl)); (first | refine pickT ?_ | refine pickF ?_ | fail_if_success with_reducible refine pickA ?_)) | ((with_reducible refine SC.draw Tab.mixed ?_ ?_); (focus (first | rfl | simp (disch := omega) only [go_sem, ↓reduceIte, Nat.reduceEqDiff, Nat.reduceLT, Nat.reduceLeDiff, Nat.reduceAdd, Nat.reduceMul, Nat.reduceSub, reduceCtorEq, Nat.reduceBEq, Int.reduceToNat, Int.reducePow, if_pos, if_neg, q2, u1, u2]))) | (with_reducible apply SC.ops)))
          refine hK _ (k + 1) ?_ (by omega) (by omega)
          rw [← g4]
          refine appRow (pre := [.sc (.int .u64 p), .sc (.int .i64 M.length)]) (y := .im R0 M.length) (ids := [q]) 2 3 (nx + 1) hB (by simp (disch := omega) only [go_sem, ↓reduceIte, Nat.reduceEqDiff, if_neg] <;> rfl) (by simp (disch := omega) only [go_sem, ↓reduceIte] <;> rfl) (by simp (disch := omega) only [go_sem, ↓reduceIte, if_pos, if_neg, v1, v2, v3] <;> rfl) rfl (imR_clo _ _) rfl (by omega) (by omega) (by simp; omega) (by simp; omega) ?_ (Nat.zero_le _) ?_
          · exact ⟨⟨by omega, by omega, by omega, by simp; omega, by simp (disch := omega) only [go_sem, ↓reduceIte, Nat.reduceEqDiff, if_neg] <;> rfl, rfl⟩, ⟨by omega, by omega, by omega, by simp; omega, by simp (disch := omega) only [go_sem, ↓reduceIte, reduceCtorEq, if_neg] <;> rfl, rfl⟩, trivial⟩
          · (repeat' (first | exact trivial | refine mapSl_cons (by simp (disch := omega) only [go_sem, ↓reduceIte, Nat.reduceEqDiff] <;> rfl) ?_ ?_ | exact VMap.junk _ | exact VMap.sc _ | exact VMap.clo rfl | exact VMap.sl rfl (by omega) | exact VMap.cap rfl (by omega) | exact VMap.pt rfl (by omega) | exact VMap.nil_sl _ _ _ | exact VMap.int (by first | rfl | omega | (dsimp only; omega))))
    · have q1 := decide_eq_false (p := (k : Int) < (w : Int)) (by omega)
      have : k = w := by omega
      subst this
      have u3 := imR_clo M.length (nR (turnL M k))
      (repeat (first | refine DO.nil (by kernel_rfl) ?_ | (with_reducible first | apply oz1 | apply oz2 | apply oz3 | apply oz4 | apply oz5 | apply oz6 | apply oz7 | apply oz8 | apply oz9 | apply ozb | apply ozc | apply oze | apply ozf | apply ozg | apply ozh | apply ozi | apply ozj | apply ozk | refine ozd (by decide) ?_) | ((first | apply SO.call | apply DO.call); (iterate 3 (focus (simp (disch := omega) only [go_sem, ↓reduceIte, Nat.reduceEqDiff, Nat.reduceLT, Nat.reduceLeDiff, Nat.reduceAdd, Nat.reduceMul, Nat.reduceSub, reduceCtorEq, Nat.reduceBEq, Int.reduceToNat, Int.reducePow, if_pos, if_neg, q1] <;> rfl))); (first | apply SCall.ofX | apply DCall.ofX); (focus (first | assumption)); (focus (simp (disch := omega) only [go_sem, ↓reduceIte, Nat.reduceEqDiff, Nat.reduceLT, Nat.reduceLeDiff, Nat.reduceAdd, Nat.reduceMul, Nat.reduceSub, reduceCtorEq, Nat.reduceBEq, Int.reduceToNat, Int.reducePow, if_pos, if_neg, q1] <;> rfl))) | ((with_reducible first | apply SC.condB | apply SC.region | apply SO.run | apply DO.run); (focus (simp (disch := omega) only [go_sem, ↓reduceIte, Nat.reduceEqDiff, Nat.reduceLT, Nat.reduceLeDiff, Nat.reduceAdd, reduceCtorEq, q1] <;> rfl)); (first | refine pickT ?_ | refine pickF ?_ | fail_if_success with_reducible refine pickA ?_)) | ((with_reducible refine SC.draw Tab.mixed ?_ ?_); (focus (first | rfl | simp (disch := omega) only [go_sem, ↓reduceIte, Nat.reduceEqDiff, Nat.reduceLT, Nat.reduceLeDiff, Nat.reduceAdd, Nat.reduceMul, Nat.reduceSub, reduceCtorEq, Nat.reduceBEq, Int.reduceToNat, Int.reducePow, if_pos, if_neg, q1]))) | (with_reducible apply SC.ops)))
      exact retQ_ret Try.results29 (by simp (disch := omega) only [go_sem, ↓reduceIte, Nat.reduceEqDiff, Nat.reduceLeDiff, Nat.reduceAdd] <;> rfl) (by simp (disch := omega) only [go_sem, ↓reduceIte, Nat.reduceEqDiff, if_pos, u1, u2, u3] <;> rfl) rfl
end Go.Proofs.Ytpbomhmflllemaa

/- The reference: Sized, Made, Vector. -/
namespace Go.Proofs.Ytpbomhmflllemaa
open Go.RowKit

/-- numbers of 32 bits as cells; rows of such -/
def uv (l : List Nat) : List V := l.map fun (n : Nat) => .sc (.int .u32 n)
def uR (L : List (List Nat)) : List V := L.map fun l => .im (uv l) l.length
theorem uv_len (l : List Nat) : (uv l).length = l.length := by simp [uv]
theorem uR_len (L : List (List Nat)) : (uR L).length = L.length := by simp [uR]
theorem uv_get {r : List Nat} {j : Nat} (h : j < r.length) : (uv r)[j]? = some (.sc (.int .u32 (r.getD j 0 : Nat))) := by
  unfold uv; rw [List.getElem?_map, getD_get' (d := 0) h]; rfl
theorem uR_get {L : List (List Nat)} {j : Nat} (h : j < L.length) : (uR L)[j]? = some (.im (uv (L.getD j [])) (L.getD j []).length) := by
  unfold uR; rw [List.getElem?_map, getD_get' (d := []) h]; rfl
def partL (p : Nat) (l : List Nat) (cols k : Nat) : List Nat := (List.range cols).map fun j => if j < k then l.getD j 0 % p else 0
theorem partL_len {p cols k : Nat} {l : List Nat} : (partL p l cols k).length = cols := by simp [partL]
theorem partL_zero {p cols : Nat} {l : List Nat} : partL p l cols 0 = List.replicate cols 0 := by
  unfold partL
  rw [List.eq_replicate_iff]
  exact ⟨by simp, fun x hx => by obtain ⟨j, _, rfl⟩ := List.mem_map.1 hx; simp⟩
theorem partL_set {p cols k : Nat} {l : List Nat} (h : k < cols) : (partL p l cols k).set k (l.getD k 0 % p) = partL p l cols (k + 1) := by
  unfold partL
  apply List.ext_getElem?
  intro j
  rw [List.getElem?_set, List.getElem?_map, List.getElem?_map]
  simp only [List.length_map, List.length_range]
  rcases Nat.lt_or_ge j cols with hj | hj
  · rw [List.getElem?_range hj]
    simp only [Option.map_some]
    by_cases e : k = j
    · subst e; rw [if_pos rfl, if_pos h, if_pos (Nat.lt_succ_self _)]
    · rw [if_neg e]
      congr 1
      by_cases h2 : j < k
      · rw [if_pos h2, if_pos (by omega)]
      · rw [if_neg h2, if_neg (by omega)]
  · rw [List.getElem?_eq_none (l := List.range cols) (by simp; omega)]
    split
    · omega
    · rfl
theorem partL_end {p cols k : Nat} {l : List Nat} (h : cols ≤ k ∨ l.length ≤ k) : partL p l cols k = partL p l cols cols := by
  unfold partL
  apply List.map_congr_left
  intro j hj
  have := List.mem_range.1 hj
  rw [if_pos this]
  split
  · rfl
  · rename_i hk
    rw [List.getD_eq_getElem?_getD, List.getElem?_eq_none (by omega)]
    simp
def sizedL (p : Nat) (L : List (List Nat)) (rows cols : Nat) : List (List Nat) := (List.range rows).map fun i => partL p (L.getD i []) cols cols
theorem sizedL_len {p rows cols : Nat} {L : List (List Nat)} : (sizedL p L rows cols).length = rows := by simp [sizedL]
theorem sized_snoc {p i cols : Nat} {L : List (List Nat)} : imR cols (nR (sizedL p L i cols)) ++ [V.im (nv (partL p (L.getD i []) cols cols)) cols] = imR cols (nR (sizedL p L (i + 1) cols)) := by
  rw [imR_snoc]
  unfold sizedL
  rw [List.range_succ, List.map_append]
  rfl
theorem sizedL_mv {p rows cols : Nat} {L : List (List Nat)} (hp : 0 < p) : MV p rows cols (sizedL p L rows cols) := by
  refine ⟨sizedL_len, fun r hr => ?_⟩
  obtain ⟨i, _, rfl⟩ := List.mem_map.1 hr
  refine ⟨partL_len, fun x hx => ?_⟩
  obtain ⟨j, _, rfl⟩ := List.mem_map.1 hx
  split
  · exact Nat.mod_lt _ hp
  · exact hp

set_option maxRecDepth 4000 in
set_option maxHeartbeats 2000000 in
theorem rsized_s {p kp kc rows cols : Nat} {L : List (List Nat)} (hp : 0 < p) (hp2 : p ≤ 2147483648) (hk : kp ≤ 255) (hpk : primesL.getD (kp % 15) 0 = p) (hu : ∀ l ∈ L, ∀ x ∈ l, x < 4294967296) (hrows : rows ≤ 1000) (hcols : cols ≤ 1000) :
    Spec Try.prog 33 [.ag [.sc (.int .u8 kp), .sc (.int .u8 kc), .im (uR L) L.length], .sc (.int .i64 rows), .sc (.int .i64 cols)] (md p cols (sizedL p L rows cols)) := by
  have c0 := made_s kp hk
  rw [hpk] at c0
  have gl := uR_len L
  have gw := sizedL_len (p := p) (L := L) (rows := rows) (cols := cols)
  unfold md mv
  rw [gw]
  refine Spec.run Try.func33 rfl Try.ntmps33 (by simp) (by simp (disch := omega) only [go_sem, Nat.reduceAdd]; rfl) fun B hB => ?_
  (repeat (first | refine DO.nil (by kernel_rfl) ?_ | (with_reducible first | apply oz1 | apply oz2 | apply oz3 | apply oz4 | apply oz5 | apply oz6 | apply oz7 | apply oz8 | apply oz9 | apply ozb | apply ozc | apply oze | apply ozf | apply ozg | apply ozh | apply ozi | apply ozj | apply ozk | refine ozd (by decide) ?_) | ((first | apply SO.call | apply DO.call); (iterate 3 (focus (simp (disch := omega) only [go_sem, ↓reduceIte] <;> rfl))); (first | apply SCall.ofX | apply DCall.ofX); (focus (first | assumption)); (focus (simp (disch := omega) only [go_sem] <;> rfl))) | ((with_reducible first | apply SC.condB | apply SC.region | apply SO.run | apply DO.run); (focus (simp (disch := omega) only [go_sem, ↓reduceIte, Nat.reduceEqDiff, Nat.reduceLeDiff, Nat.reduceAdd, reduceCtorEq] <;> rfl)); (first | refine pickT ?_ | refine pickF ?_ | fail_if_success with_reducible refine pickA ?_)) | ((with_reducible refine SC.draw Tab.mixed ?_ ?_); (focus (first | rfl | simp (disch := omega) only [go_sem, ↓reduceIte, Nat.reduceEqDiff, Nat.reduceLT, Nat.reduceLeDiff, Nat.reduceAdd, Nat.reduceMul, Nat.reduceSub, reduceCtorEq, Nat.reduceBEq, Int.reduceToNat, Int.reducePow, if_pos, if_neg]))) | (with_reducible apply SC.ops)))
  refine SC.loop (fun i : Nat => ⟨[(1, .sc (.int .i64 rows)), (2, .sc (.int .i64 cols)), (3, .pt 0 0), (6, .pt 1 0), (7, .sc (.int .u64 p)), (8, .pt 2 0), (9, .sc (.int .i64 i))], [(2, ⟨29, [.sc (.int .u64 p), .sc (.int .i64 cols), .sl 3 0 i 1 none], false⟩), (3, ⟨44, imR cols (nR (sizedL p L i cols)), false⟩), (1, ⟨29, [.sc (.int .u64 0), .sc (.int .i64 0), .sc (.slice none 0 0)], false⟩), (0, ⟨24, [.sc (.int .u8 kp), .sc (.int .u8 kc), .im (uR L) L.length], false⟩)], 4, 68⟩)
    (fun i => i ≤ rows) (fun i => rows - i) 0 ?_ ?_ ?_
  · refine nilRow (pre := [.sc (.int .u64 p), .sc (.int .i64 cols)]) 2 3 hB (by simp (disch := omega) only [go_sem, ↓reduceIte] <;> rfl) rfl (by omega) ?_ (Nat.zero_le _) ?_
    · exact ⟨⟨by omega, by omega, by omega, by simp, by simp (disch := omega) only [go_sem, ↓reduceIte, Nat.reduceEqDiff] <;> rfl, rfl⟩, ⟨by omega, by omega, by omega, by simp, by simp (disch := omega) only [go_sem, ↓reduceIte, reduceCtorEq] <;> rfl, rfl⟩, trivial⟩
    · (repeat' (first | exact trivial | refine mapSl_cons (by simp (disch := omega) only [go_sem, ↓reduceIte, Nat.reduceEqDiff, reduceCtorEq] <;> rfl) ?_ ?_ | exact VMap.junk _ | exact VMap.sc _ | exact VMap.clo rfl | exact VMap.sl rfl (by omega) | exact VMap.cap rfl (by omega) | exact VMap.pt rfl (by omega) | exact VMap.nil_sl _ _ _ | exact VMap.int (by first | rfl | omega | (dsimp only; omega))))
  · exact Nat.zero_le _
  · intro i hi K hK
    have u1 := imR_len cols (sizedL p L i cols)
    rw [sizedL_len] at u1
    have u2 : (imR cols (nR (sizedL p L i cols))).take i = imR cols (nR (sizedL p L i cols)) := List.take_of_length_le (by omega)
    by_cases hc : i < rows
    · have q1 := decide_eq_true (p := (i : Int) < (rows : Int)) (by omega)
      have z1 := nv_repl cols
      obtain ⟨l, hl'⟩ : ∃ l, L.getD i [] = l := ⟨_, rfl⟩
      (repeat (first | refine DO.nil (by kernel_rfl) ?_ | (with_reducible first | apply oz1 | apply oz2 | apply oz3 | apply oz4 | apply oz5 | apply oz6 | apply oz7 | apply oz8 | apply oz9 | apply ozb | apply ozc | apply oze | apply ozf | apply ozg | apply ozh | apply ozi | apply ozj | apply ozk | refine ozd (by decide) ?_) | ((first | apply SO.call | apply DO.call); (iterate 3 (focus (simp (disch := omega) only [go_sem, ↓reduceIte, Nat.reduceEqDiff, Nat.reduceLT, Nat.reduceLeDiff, Nat.reduceAdd, Nat.reduceMul, Nat.reduceSub, reduceCtorEq, Nat.reduceBEq, Int.reduceToNat, Int.reducePow, if_pos, if_neg, q1] <;> rfl))); (first | apply SCall.ofX | apply DCall.ofX); (focus (first | assumption)); (focus (simp (disch := omega) only [go_sem, ↓reduceIte, Nat.reduceEqDiff, Nat.reduceLT, Nat.reduceLeDiff, Nat.reduceAdd, Nat.reduceMul, Nat.reduceSub, reduceCtorEq, Nat.reduceBEq, Int.reduceToNat, Int.reducePow, if_pos, if_neg, q1] <;> rfl))) | ((with_reducible first | apply SC.condB | apply SC.region | apply SO.run | apply DO.run); (focus (simp (disch := omega) only [go_sem, ↓reduceIte, Nat.reduceEqDiff, Nat.reduceAdd, if_pos, q1] <;> rfl)); (first | refine pickT ?_ | refine pickF ?_ | fail_if_success with_reducible refine pickA ?_)) | ((with_reducible refine SC.draw Tab.mixed ?_ ?_); (focus (first | rfl | simp (disch := omega) only [go_sem, ↓reduceIte, Nat.reduceEqDiff, Nat.reduceLT, Nat.reduceLeDiff, Nat.reduceAdd, Nat.reduceMul, Nat.reduceSub, reduceCtorEq, Nat.reduceBEq, Int.reduceToNat, Int.reducePow, if_pos, if_neg, q1]))) | (with_reducible apply SC.ops)))
      refine SC.loop (fun k : Nat => ⟨[(1, .sc (.int .i64 rows)), (2, .sc (.int .i64 cols)), (3, .pt 0 0), (6, .pt 1 0), (7, .sc (.int .u64 p)), (8, .pt 2 0), (9, .sc (.int .i64 i)), (10, .sl 4 0 cols 1 (some cols)), (11, .sc (.int .i64 k))], [(4, ⟨26, nv (partL p l cols k), false⟩), (2, ⟨29, [.sc (.int .u64 p), .sc (.int .i64 cols), .sl 3 0 i 1 none], false⟩), (3, ⟨44, imR cols (nR (sizedL p L i cols)), false⟩), (1, ⟨29, [.sc (.int .u64 0), .sc (.int .i64 0), .sc (.slice none 0 0)], false⟩), (0, ⟨24, [.sc (.int .u8 kp), .sc (.int .u8 kc), .im (uR L) L.length], false⟩)], 5, 68⟩)
        (fun k => k ≤ cols) (fun k => cols - k) 0 ?_ ?_ ?_
      · rw [partL_zero, ← z1]
        (refine Le.slots ?_ ?_ ?_ <;> (repeat' (first | (exact fun _ _ h => h) | exact Nat.le_refl _ | exact leSl_nil | refine leSl_cons (by simp (disch := omega) only [go_sem, ↓reduceIte, Nat.reduceEqDiff] <;> rfl) ?_ ?_ | exact VLe.junk _ | exact VLe.refl rfl | exact VLe.nil_sl _ _ _ | exact VLe.int (by first | rfl | omega | (dsimp only; omega)) | exact VLe.bool rfl | exact VLe.sl rfl (by first | rfl | omega) | exact VLe.cap rfl (by first | rfl | omega) | exact VLe.im rfl rfl | omega | (refine fun id k h => ?_; simp only [hget] at h ⊢; (repeat' (split at h)) <;> first | (cases h; done) | (simp (disch := omega) only [if_pos, if_neg]; exact h)))))
      · exact Nat.zero_le _
      · intro k hk2 K2 hK2
        have y1 := nv_len (partL p l cols k)
        rw [partL_len] at y1
        by_cases hkc : k < cols
        · have q2 := decide_eq_true (p := (k : Int) < (cols : Int)) (by omega)
          by_cases hiL : i < L.length
          · have q3 := decide_eq_true (p := (i : Int) < (L.length : Int)) (by omega)
            have g1 := uR_get hiL
            rw [hl'] at g1
            have g2 := uv_len l
            by_cases hkl : k < l.length
            · have q4 := decide_eq_true (p := (k : Int) < (l.length : Int)) (by omega)
              have g3 := uv_get hkl
              have g5 := nv_set (partL p l cols k) k (l.getD k 0 % p)
              rw [partL_set hkc] at g5
              have e1 : ((l.getD k 0 : Nat) : Int) % (p : Int) = ((l.getD k 0 % p : Nat) : Int) := by simp
              have e2 := hu l (by rw [← hl']; exact getD_mem hiL) _ (getD_mem (d := 0) hkl)
              have e3 := Nat.mod_lt (l.getD k 0) hp
              generalize l.getD k 0 % p = z at *
              generalize l.getD k 0 = x at *
              (repeat (first | refine DO.nil (by kernel_rfl) ?_ | (with_reducible first | apply oz1 | apply oz2 | apply oz3 | apply oz4 | apply oz5 | apply oz6 | apply oz7 | apply oz8 | apply oz9 | apply ozb | apply ozc | apply oze | apply ozf | apply ozg | apply ozh | apply ozi | apply ozj | apply ozk | refine ozd (by decide) ?_) | ((first | apply SO.call | apply DO.call); (iterate 3 (focus (simp (disch := omega) only [go_sem, ↓reduceIte, Nat.reduceEqDiff, Nat.reduceLT, Nat.reduceLeDiff, Nat.reduceAdd, Nat.reduceMul, Nat.reduceSub, reduceCtorEq, Nat.reduceBEq, Int.reduceToNat, Int.reducePow, if_pos, if_neg, q2, q3, q4, gl, g1, g2, g3, g5, e1, y1, List.getElem?_drop] <;> rfl))); (first | apply SCall.ofX | apply DCall.ofX); (focus (first | assumption)); (focus (simp (disch := omega) only [go_sem, ↓reduceIte, Nat.reduceEqDiff, Nat.reduceLT, Nat.reduceLeDiff, Nat.reduceAdd, Nat.reduceMul, Nat.reduceSub, reduceCtorEq, Nat.reduceBEq, Int.reduceToNat, Int.reducePow, if_pos, if_neg, q2, q3, q4, gl, g1, g2, g3, g5, e1, y1, List.getElem?_drop] <;> rfl))) | ((with_reducible first | apply SC.condB | apply SC.region | apply SO.run | apply DO.run); (focus (simp (disch := omega) only [go_sem, ↓reduceIte, Nat.reduceEqDiff, reduceCtorEq, if_pos, if_neg, q2, q3, q4, gl, g1, g2, g3, g5, e1, y1, List.getElem?_drop] <;> rfl)); (first | refine pickT ?_ | refine pickF ?_ | fail_if_success with_reducible refine pickA ?_)) | ((with_reducible refine SC.draw Tab.mixed ?_ ?_); (focus (first | rfl | simp (disch := omega) only [go_sem, ↓reduceIte, Nat.reduceEqDiff, Nat.reduceLT, Nat.reduceLeDiff, Nat.reduceAdd, Nat.reduceMul, Nat.reduceSub, reduceCtorEq, Nat.reduceBEq, Int.reduceToNat, Int.reducePow, if_pos, if_neg, q2, q3, q4, gl, g1, g2, g3, g5, e1, y1, List.getElem?_drop]))) | (with_reducible apply SC.ops)))
              refine hK2 _ (k + 1) ?_ (by omega) (by omega)
              (refine Le.slots ?_ ?_ ?_ <;> (repeat' (first | (exact fun _ _ h => h) | exact Nat.le_refl _ | exact leSl_nil | refine leSl_cons (by simp (disch := omega) only [go_sem, ↓reduceIte, Nat.reduceEqDiff] <;> rfl) ?_ ?_ | exact VLe.junk _ | exact VLe.refl rfl | exact VLe.nil_sl _ _ _ | exact VLe.int (by first | rfl | omega | (dsimp only; omega)) | exact VLe.bool rfl | exact VLe.sl rfl (by first | rfl | omega) | exact VLe.cap rfl (by first | rfl | omega) | exact VLe.im rfl rfl | omega | (refine fun id k h => ?_; simp only [hget] at h ⊢; (repeat' (split at h)) <;> first | (cases h; done) | (simp (disch := omega) only [if_pos, if_neg]; exact h)))))
            · have q4 := decide_eq_false (p := (k : Int) < (l.length : Int)) (by omega)
              have hfull := partL_end (p := p) (cols := cols) (k := k) (l := l) (.inr (by omega))
              have v1 := nv_len (partL p l cols cols)
              rw [partL_len] at v1
              have v2 : (nv (partL p l cols cols)).take cols = nv (partL p l cols cols) := List.take_of_length_le (by omega)
              have v3 := nv_clo (partL p l cols cols)
              have g4 := sized_snoc (p := p) (L := L) (cols := cols) (i := i)
              rw [hl'] at g4
              rw [hfull] at *
              generalize nv (partL p l cols cols) = R0 at *
              (repeat (first | refine DO.nil (by kernel_rfl) ?_ | (with_reducible first | apply oz1 | apply oz2 | apply oz3 | apply oz4 | apply oz5 | apply oz6 | apply oz7 | apply oz8 | apply oz9 | apply ozb | apply ozc | apply oze | apply ozf | apply ozg | apply ozh | apply ozi | apply ozj | apply ozk | refine ozd (by decide) ?_) | ((first | apply SO.call | apply DO.call); (iterate 3 (focus (simp (disch := omega) only [go_sem, ↓reduceIte, Nat.reduceEqDiff, Nat.reduceLT, Nat.reduceLeDiff, Nat.reduceAdd, Nat.reduceMul, Nat.reduceSub, reduceCtorEq, Nat.reduceBEq, Int.reduceToNat, Int.reducePow, if_pos, if_neg, q2, q3, q4, gl, g1, g2, List.getElem?_drop, u1, u2] <;> rfl))); (first | apply SCall.ofX | apply DCall.ofX); (focus (first | assumption)); (focus (simp (disch := omega) only [go_sem, ↓reduceIte, Nat.reduceEqDiff, Nat.reduceLT, Nat.reduceLeDiff, Nat.reduceAdd, Nat.reduceMul, Nat.reduceSub, reduceCtorEq, Nat.reduceBEq, Int.reduceToNat, Int.reducePow, if_pos, if_neg, q2, q3, q4, gl, g1, g2, List.getElem?_drop, u1, u2] <;> rfl))) | ((with_reducible first | apply SC.condB | apply SC.region | apply SO.run | apply DO.run); (focus (simp (disch := omega) only [go_sem, ↓reduceIte, Nat.reduceEqDiff, Nat.reduceLeDiff, Nat.reduceAdd, reduceCtorEq, if_pos, q2, q3, q4, gl, g1, List.getElem?_drop, u1, u2] <;> rfl)); (first | refine pickT ?_ | refine pickF ?_ | fail_if_success with_reducible refine pickA ?_)) | ((with_reducible refine SC.draw Tab.mixed ?_ ?_); (focus (first | rfl | simp (disch := omega) only [go_sem, ↓reduceIte, Nat.reduceEqDiff, Nat.reduceLT, Nat.reduceLeDiff, Nat.reduceAdd, Nat.reduceMul, Nat.reduceSub, reduceCtorEq, Nat.reduceBEq, Int.reduceToNat, Int.reducePow, if_pos, if_neg, q2, q3, q4, gl, g1, g2, List.getElem?_drop, u1, u2]))) | (with_reducible apply SC.ops)))
              refine hK _ (i + 1) ?_ (by omega) (by omega)
              rw [← g4]
              refine appRow (pre := [.sc (.int .u64 p), .sc (.int .i64 cols)]) (y := .im R0 cols) (ids := [4]) 2 3 6 hB (by simp (disch := omega) only [go_sem, ↓reduceIte, Nat.reduceEqDiff] <;> rfl) (by simp (disch := omega) only [go_sem, ↓reduceIte] <;> rfl) (by simp (disch := omega) only [go_sem, ↓reduceIte, Nat.reduceEqDiff, if_pos, v1, v2, v3] <;> rfl) rfl (imR_clo _ _) rfl (by omega) (by omega) (by simp) (by simp) ?_ (Nat.zero_le _) ?_
              · exact ⟨⟨by omega, by omega, by omega, by simp, by simp (disch := omega) only [go_sem, ↓reduceIte, Nat.reduceEqDiff] <;> rfl, rfl⟩, ⟨by omega, by omega, by omega, by simp, by simp (disch := omega) only [go_sem, ↓reduceIte, reduceCtorEq] <;> rfl, rfl⟩, trivial⟩
              · (repeat' (first | exact trivial | refine mapSl_cons (by simp (disch := omega) only [go_sem, ↓reduceIte, Nat.reduceEqDiff] <;> rfl) ?_ ?_ | exact VMap.junk _ | exact VMap.sc _ | exact VMap.clo rfl | exact VMap.sl rfl (by omega) | exact VMap.cap rfl (by omega) | exact VMap.pt rfl (by omega) | exact VMap.nil_sl _ _ _ | exact VMap.int (by first | rfl | omega | (dsimp only; omega))))
          · have q3 := decide_eq_false (p := (i : Int) < (L.length : Int)) (by omega)
            have hfull := partL_end (p := p) (cols := cols) (k := k) (l := l) (.inr (by rw [← hl', List.getD_eq_getElem?_getD, List.getElem?_eq_none (by omega)]; simp))
            have v1 := nv_len (partL p l cols cols)
            rw [partL_len] at v1
            have v2 : (nv (partL p l cols cols)).take cols = nv (partL p l cols cols) := List.take_of_length_le (by omega)
            have v3 := nv_clo (partL p l cols cols)
            have g4 := sized_snoc (p := p) (L := L) (cols := cols) (i := i)
            rw [hl'] at g4
            rw [hfull] at *
            generalize nv (partL p l cols cols) = R0 at *
            (repeat (first | refine DO.nil (by kernel_rfl) ?_ | (with_reducible first | apply oz1 | apply oz2 | apply oz3 | apply oz4 | apply oz5 | apply oz6 | apply oz7 | apply oz8 | apply oz9 | apply ozb | apply ozc | apply oze | apply ozf | apply ozg | apply ozh | apply ozi | apply ozj | apply ozk | refine ozd (by decide) ?_) | ((first | apply SO.call | apply DO.call); (iterate 3 (focus (simp (disch := omega) only [go_sem, ↓reduceIte, Nat.reduceEqDiff, Nat.reduceLT, Nat.reduceLeDiff, Nat.reduceAdd, Nat.reduceMul, Nat.reduceSub, reduceCtorEq, Nat.reduceBEq, Int.reduceToNat, Int.reducePow, if_pos, if_neg, q2, q3, gl, u1, u2] <;> rfl))); (first | apply SCall.ofX | apply DCall.ofX); (focus (first | assumption)); (focus (simp (disch := omega) only [go_sem, ↓reduceIte, Nat.reduceEqDiff, Nat.reduceLT, Nat.reduceLeDiff, Nat.reduceAdd, Nat.reduceMul, Nat.reduceSub, reduceCtorEq, Nat.reduceBEq, Int.reduceToNat, Int.reducePow, if_pos, if_neg, q2, q3, gl, u1, u2] <;> rfl))) | ((with_reducible first | apply SC.condB | apply SC.region | apply SO.run | apply DO.run); (focus (simp (disch := omega) only [go_sem, ↓reduceIte, Nat.reduceEqDiff, Nat.reduceLeDiff, Nat.reduceAdd, reduceCtorEq, if_pos, q2, q3, u1, u2] <;> rfl)); (first | refine pickT ?_ | refine pickF ?_ | fail_if_success with_reducible refine pickA ?_)) | ((with_reducible refine SC.draw Tab.mixed ?_ ?_); (focus (first | rfl | simp (disch := omega) only [go_sem, ↓reduceIte, Nat.reduceEqDiff, Nat.reduceLT, Nat.reduceLeDiff, Nat.reduceAdd, Nat.reduceMul, Nat.reduceSub, reduceCtorEq, Nat.reduceBEq, Int.reduceToNat, Int.reducePow, if_pos, if_neg, q2, q3, gl, u1, u2]))) | (with_reducible apply SC.ops)))
            refine hK _ (i + 1) ?_ (by omega) (by omega)
            rw [← g4]
            refine appRow (pre := [.sc (.int .u64 p), .sc (.int .i64 cols)]) (y := .im R0 cols) (ids := [4]) 2 3 6 hB (by simp (disch := omega) only [go_sem, ↓reduceIte, Nat.reduceEqDiff] <;> rfl) (by simp (disch := omega) only [go_sem, ↓reduceIte] <;> rfl) (by simp (disch := omega) only [go_sem, ↓reduceIte, Nat.reduceEqDiff, if_pos, v1, v2, v3] <;> rfl) rfl (imR_clo _ _) rfl (by omega) (by omega) (by simp) (by simp) ?_ (Nat.zero_le _) ?_
            · exact ⟨⟨by omega, by omega, by omega, by simp, by simp (disch := omega) only [go_sem, ↓reduceIte, Nat.reduceEqDiff] <;> rfl, rfl⟩, ⟨by omega, by omega, by omega, by simp, by simp (disch := omega) only [go_sem, ↓reduceIte, reduceCtorEq] <;> rfl, rfl⟩, trivial⟩
            · (repeat' (first | exact trivial | refine mapSl_cons (by simp (disch := omega) only [go_sem, ↓reduceIte, Nat.reduceEqDiff] <;> rfl) ?_ ?_ | exact VMap.junk _ | exact VMap.sc _ | exact VMap.clo rfl | exact VMap.sl rfl (by omega) | exact VMap.cap rfl (by omega) | exact VMap.pt rfl (by omega) | exact VMap.nil_sl _ _ _ | exact VMap.int (by first | rfl | omega | (dsimp only; omega))))
        · have q2 := decide_eq_false (p := (k : Int) < (cols : Int)) (by omega)
          have hfull := partL_end (p := p) (cols := cols) (k := k) (l := l) (.inl (by omega))
          have v1 := nv_len (partL p l cols cols)
          rw [partL_len] at v1
          have v2 : (nv (partL p l cols cols)).take cols = nv (partL p l cols cols) := List.take_of_length_le (by omega)
          have v3 := nv_clo (partL p l cols cols)
          have g4 := sized_snoc (p := p) (L := L) (cols := cols) (i := i)
          rw [hl'] at g4
          rw [hfull] at *
          generalize nv (partL p l cols cols) = R0 at *
          (repeat (first | refine DO.nil (by kernel_rfl) ?_ | (with_reducible first | apply oz1 | apply oz2 | apply oz3 | apply oz4 | apply oz5 | apply oz6 | apply oz7 | apply oz8 | apply oz9 | apply ozb | apply ozc | apply oze | apply ozf | apply ozg | apply ozh | apply ozi | apply ozj | apply ozk | refine ozd (by decide) ?_) | ((first | apply SO.call | apply DO.call); (iterate 3 (focus (simp (disch := omega) only [go_sem, ↓reduceIte, Nat.reduceEqDiff, Nat.reduceLT, Nat.reduceLeDiff, Nat.reduceAdd, Nat.reduceMul, Nat.reduceSub, reduceCtorEq, Nat.reduceBEq, Int.reduceToNat, Int.reducePow, if_pos, if_neg, q2, u1, u2] <;> rfl))); (first | apply SCall.ofX | apply DCall.ofX); (focus (first | assumption)); (focus (simp (disch := omega) only [go_sem, ↓reduceIte, Nat.reduceEqDiff, Nat.reduceLT, Nat.reduceLeDiff, Nat.reduceAdd, Nat.reduceMul, Nat.reduceSub, reduceCtorEq, Nat.reduceBEq, Int.reduceToNat, Int.reducePow, if_pos, if_neg, q2, u1, u2] <;> rfl))) | ((with_reducible first | apply SC.condB | apply SC.region | apply SO.run | apply DO.run); (focus (simp (disch := omega) only [go_sem, ↓reduceIte, Nat.reduceEqDiff, Nat.reduceLeDiff, Nat.reduceAdd, reduceCtorEq, if_pos, q2, u1, u2] <;> rfl)); (first | refine pickT ?_ | refine pickF ?_ | fail_if_success with_reducible refine pickA ?_)) | ((with_reducible refine SC.draw Tab.mixed ?_ ?_); (focus (first | rfl | simp (disch := omega) only [go_sem, ↓reduceIte, Nat.reduceEqDiff, Nat.reduceLT, Nat.reduceLeDiff, Nat.reduceAdd, Nat.reduceMul, Nat.reduceSub, reduceCtorEq, Nat.reduceBEq, Int.reduceToNat, Int.reducePow, if_pos, if_neg, q2, u1, u2]))) | (with_reducible apply SC.ops)))
          refine hK _ (i + 1) ?_ (by omega) (by omega)
          rw [← g4]
          refine appRow (pre := [.sc (.int .u64 p), .sc (.int .i64 cols)]) (y := .im R0 cols) (ids := [4]) 2 3 6 hB (by simp (disch := omega) only [go_sem, ↓reduceIte, Nat.reduceEqDiff] <;> rfl) (by simp (disch := omega) only [go_sem, ↓reduceIte] <;> rfl) (by simp (disch := omega) only [go_sem, ↓reduceIte, Nat.reduceEqDiff, if_pos, v1, v2, v3] <;> rfl) rfl (imR_clo _ _) rfl (by omega) (by omega) (by simp) (by simp) ?_ (Nat.zero_le _) ?_
          · exact ⟨⟨by omega, by omega, by omega, by simp, by simp (disch := omega) only [go_sem, ↓reduceIte, Nat.reduceEqDiff] <;> rfl, rfl⟩, ⟨by omega, by omega, by omega, by simp, by simp (disch := omega) only [go_sem, ↓reduceIte, reduceCtorEq] <;> rfl, rfl⟩, trivial⟩
          · (repeat' (first | exact trivial | refine mapSl_cons (by simp (disch := omega) only [go_sem, ↓reduceIte, Nat.reduceEqDiff] <;> rfl) ?_ ?_ | exact VMap.junk _ | exact VMap.sc _ | exact VMap.clo rfl | exact VMap.sl rfl (by omega) | exact VMap.cap rfl (by omega) | exact VMap.pt rfl (by omega) | exact VMap.nil_sl _ _ _ | exact VMap.int (by first | rfl | omega | (dsimp only; omega))))
    · have q1 := decide_eq_false (p := (i : Int) < (rows : Int)) (by omega)
      have : i = rows := by omega
      subst this
      have u3 := imR_clo cols (nR (sizedL p L i cols))
      (repeat (first | refine DO.nil (by kernel_rfl) ?_ | (with_reducible first | apply oz1 | apply oz2 | apply oz3 | apply oz4 | apply oz5 | apply oz6 | apply oz7 | apply oz8 | apply oz9 | apply ozb | apply ozc | apply oze | apply ozf | apply ozg | apply ozh | apply ozi | apply ozj | apply ozk | refine ozd (by decide) ?_) | ((first | apply SO.call | apply DO.call); (iterate 3 (focus (simp (disch := omega) only [go_sem, ↓reduceIte, Nat.reduceEqDiff, Nat.reduceLT, Nat.reduceLeDiff, Nat.reduceAdd, Nat.reduceMul, Nat.reduceSub, reduceCtorEq, Nat.reduceBEq, Int.reduceToNat, Int.reducePow, if_pos, if_neg, q1] <;> rfl))); (first | apply SCall.ofX | apply DCall.ofX); (focus (first | assumption)); (focus (simp (disch := omega) only [go_sem, ↓reduceIte, Nat.reduceEqDiff, Nat.reduceLT, Nat.reduceLeDiff, Nat.reduceAdd, Nat.reduceMul, Nat.reduceSub, reduceCtorEq, Nat.reduceBEq, Int.reduceToNat, Int.reducePow, if_pos, if_neg, q1] <;> rfl))) | ((with_reducible first | apply SC.condB | apply SC.region | apply SO.run | apply DO.run); (focus (simp (disch := omega) only [go_sem, ↓reduceIte, Nat.reduceEqDiff, Nat.reduceLT, Nat.reduceLeDiff, Nat.reduceAdd, q1] <;> rfl)); (first | refine pickT ?_ | refine pickF ?_ | fail_if_success with_reducible refine pickA ?_)) | ((with_reducible refine SC.draw Tab.mixed ?_ ?_); (focus (first | rfl | simp (disch := omega) only [go_sem, ↓reduceIte, Nat.reduceEqDiff, Nat.reduceLT, Nat.reduceLeDiff, Nat.reduceAdd, Nat.reduceMul, Nat.reduceSub, reduceCtorEq, Nat.reduceBEq, Int.reduceToNat, Int.reducePow, if_pos, if_neg, q1]))) | (with_reducible apply SC.ops)))
      exact retQ_ret Try.results33 (by simp (disch := omega) only [go_sem, ↓reduceIte, Nat.reduceEqDiff, Nat.reduceLeDiff, Nat.reduceAdd] <;> rfl) (by simp (disch := omega) only [go_sem, ↓reduceIte, Nat.reduceEqDiff, if_pos, u1, u2, u3] <;> rfl) rfl
end Go.Proofs.Ytpbomhmflllemaa

/- The reference: Copied, its rows in a new own block; With; Rank. -/
namespace Go.Proofs.Ytpbomhmflllemaa
open Go.RowKit

set_option maxRecDepth 4000 in
set_option maxHeartbeats 1000000 in
theorem rcopied_q {p n w : Nat} {M : List (List Nat)} (hM : MV p n w M) (hn : n ≤ 1000000) (hw : w ≤ 1000000) :
    Inl Try.prog 13 [md p w M] [] 2 (.ag [.sc (.int .u64 p), .sc (.int .i64 w), .sl 5 0 n 1 none]) [(5, ⟨44, imR w (nR M), false⟩)] 6 := by
  have hl := hM.1
  subst hl
  have gl := imR_len w M
  unfold md mv
  refine Inl.run Try.func13 rfl Try.ntmps13 (by simp) (by simp (disch := omega) only [go_sem]; rfl) fun B hB => ?_
  (repeat (first | refine DO.nil (by kernel_rfl) ?_ | (with_reducible first | apply oz1 | apply oz2 | apply oz3 | apply oz4 | apply oz5 | apply oz6 | apply oz7 | apply oz8 | apply oz9 | apply ozb | apply ozc | apply oze | apply ozf | apply ozg | apply ozh | apply ozi | apply ozj | apply ozk | refine ozd (by decide) ?_) | ((first | apply SO.call | apply DO.call); (iterate 3 (focus (simp (disch := omega) only [go_sem, ↓reduceIte, Nat.reduceEqDiff, Nat.reduceLT, Nat.reduceLeDiff, Nat.reduceAdd, Nat.reduceMul, Nat.reduceSub, reduceCtorEq, Nat.reduceBEq, Int.reduceToNat, Int.reducePow, if_pos, if_neg] <;> rfl))); (first | apply SCall.ofX | apply DCall.ofX); (focus (first | assumption)); (focus (simp (disch := omega) only [go_sem, ↓reduceIte, Nat.reduceEqDiff, Nat.reduceLT, Nat.reduceLeDiff, Nat.reduceAdd, Nat.reduceMul, Nat.reduceSub, reduceCtorEq, Nat.reduceBEq, Int.reduceToNat, Int.reducePow, if_pos, if_neg] <;> rfl))) | ((with_reducible first | apply SC.condB | apply SC.region | apply SO.run | apply DO.run); (focus (simp (disch := omega) only [go_sem, ↓reduceIte, Nat.reduceEqDiff, Nat.reduceLeDiff, Nat.reduceAdd, reduceCtorEq] <;> rfl)); (first | refine pickT ?_ | refine pickF ?_ | fail_if_success with_reducible refine pickA ?_)) | ((with_reducible refine SC.draw Tab.mixed ?_ ?_); (focus (first | rfl | simp (disch := omega) only [go_sem, ↓reduceIte, Nat.reduceEqDiff, Nat.reduceLT, Nat.reduceLeDiff, Nat.reduceAdd, Nat.reduceMul, Nat.reduceSub, reduceCtorEq, Nat.reduceBEq, Int.reduceToNat, Int.reducePow, if_pos, if_neg]))) | (with_reducible apply SC.ops)))
  refine SC.loop (fun i : Nat => ⟨[(1, .pt 2 0), (2, .pt 3 0), (3, .pt 4 0), (4, .sc (.int .i64 i))], [(4, ⟨29, [.sc (.int .u64 p), .sc (.int .i64 w), .sl 5 0 i 1 none], false⟩), (5, ⟨44, imR w (nR (M.take i)), false⟩), (3, ⟨29, [.sc (.int .u64 0), .sc (.int .i64 0), .sc (.slice none 0 0)], false⟩), (2, ⟨29, [.sc (.int .u64 p), .sc (.int .i64 w), .im (imR w (nR M)) M.length], false⟩)], 6, 30⟩)
    (fun i => i ≤ M.length) (fun i => M.length - i) 0 ?_ ?_ ?_
  · refine nilRow (pre := [.sc (.int .u64 p), .sc (.int .i64 w)]) 4 5 hB (by simp (disch := omega) only [go_sem, ↓reduceIte] <;> rfl) rfl (by omega) ?_ (by omega) ?_
    · exact ⟨⟨by omega, by omega, by omega, by simp, by simp (disch := omega) only [go_sem, ↓reduceIte, Nat.reduceEqDiff] <;> rfl, rfl⟩, ⟨by omega, by omega, by omega, by simp, by simp (disch := omega) only [go_sem, ↓reduceIte, Nat.reduceEqDiff] <;> rfl, rfl⟩, trivial⟩
    · (repeat' (first | exact trivial | refine mapSl_cons (by simp (disch := omega) only [go_sem, ↓reduceIte, Nat.reduceEqDiff] <;> rfl) ?_ ?_ | exact VMap.junk _ | exact VMap.sc _ | exact VMap.clo rfl | exact VMap.sl rfl (by omega) | exact VMap.cap rfl (by omega) | exact VMap.pt rfl (by omega) | exact VMap.nil_sl _ _ _ | exact VMap.int (by first | rfl | omega | (dsimp only; omega))))
  · exact Nat.zero_le _
  · intro i hi K hK
    by_cases hc : i < M.length
    · have q1 := decide_eq_true (p := (i : Int) < (M.length : Int)) (by omega)
      have g1 := imR_get (w := w) (M := M) (i := i) (by omega)
      have hr := hM.get hc
      have g3 := nv_len (M.getD i [])
      rw [hr.1] at g3
      have g4 := imR_take (w := w) hc
      have g5 := imR_len w (M.take i)
      rw [List.length_take, Nat.min_eq_left hi] at g5
      have g6 : (imR w (nR (M.take i))).take i = imR w (nR (M.take i)) := List.take_of_length_le (by omega)
      have t6 : (nv (M.getD i [])).take w = nv (M.getD i []) := List.take_of_length_le (by rw [g3]; exact Nat.le_refl _)
      have t7 := nv_one (M.getD i [])
      generalize M.getD i [] = r at *
      (repeat (first | refine DO.nil (by kernel_rfl) ?_ | (with_reducible first | apply oz1 | apply oz2 | apply oz3 | apply oz4 | apply oz5 | apply oz6 | apply oz7 | apply oz8 | apply oz9 | apply ozb | apply ozc | apply oze | apply ozf | apply ozg | apply ozh | apply ozi | apply ozj | apply ozk | refine ozd (by decide) ?_) | ((first | apply SO.call | apply DO.call); (iterate 3 (focus (simp (disch := omega) only [go_sem, ↓reduceIte, Nat.reduceEqDiff, Nat.reduceLT, Nat.reduceLeDiff, Nat.reduceAdd, Nat.reduceMul, Nat.reduceSub, reduceCtorEq, Nat.reduceBEq, Int.reduceToNat, Int.reducePow, if_pos, if_neg, q1, gl, g1, g3, g5, g6, t6, t7, List.getElem?_drop] <;> rfl))); (first | apply SCall.ofX | apply DCall.ofX); (focus (first | assumption)); (focus (simp (disch := omega) only [go_sem, ↓reduceIte, Nat.reduceEqDiff, Nat.reduceLT, Nat.reduceLeDiff, Nat.reduceAdd, Nat.reduceMul, Nat.reduceSub, reduceCtorEq, Nat.reduceBEq, Int.reduceToNat, Int.reducePow, if_pos, if_neg, q1, gl, g1, g3, g5, g6, t6, t7, List.getElem?_drop] <;> rfl))) | ((with_reducible first | apply SC.condB | apply SC.region | apply SO.run | apply DO.run); (focus (simp (disch := omega) only [go_sem, ↓reduceIte, Nat.reduceEqDiff, Nat.reduceLeDiff, Nat.reduceAdd, reduceCtorEq, if_pos, q1, gl, g1, g3, g5, g6, t7, List.getElem?_drop] <;> rfl)); (first | refine pickT ?_ | refine pickF ?_ | fail_if_success with_reducible refine pickA ?_)) | ((with_reducible refine SC.draw Tab.mixed ?_ ?_); (focus (first | rfl | simp (disch := omega) only [go_sem, ↓reduceIte, Nat.reduceEqDiff, Nat.reduceLT, Nat.reduceLeDiff, Nat.reduceAdd, Nat.reduceMul, Nat.reduceSub, reduceCtorEq, Nat.reduceBEq, Int.reduceToNat, Int.reducePow, if_pos, if_neg, q1, gl, g1, g3, g5, g6, t6, t7, List.getElem?_drop]))) | (with_reducible apply SC.ops)))
      have t8 := nv_clo r
      refine hK _ (i + 1) ?_ (by omega) (by omega)
      rw [← g4]
      refine appRow (pre := [.sc (.int .u64 p), .sc (.int .i64 w)]) (y := .im (nv r) w) (ids := [7]) 4 5 9 hB (by simp (disch := omega) only [go_sem, ↓reduceIte, Nat.reduceEqDiff] <;> rfl) (by simp (disch := omega) only [go_sem, ↓reduceIte] <;> rfl) (by simp (disch := omega) only [go_sem, ↓reduceIte, Nat.reduceEqDiff, if_pos, g3, t6, t8] <;> rfl) rfl (imR_clo _ _) rfl (by omega) (by omega) (by simp) (by simp) ?_ (by omega) ?_
      · exact ⟨⟨by omega, by omega, by omega, by simp, by simp (disch := omega) only [go_sem, ↓reduceIte, Nat.reduceEqDiff] <;> rfl, rfl⟩, ⟨by omega, by omega, by omega, by simp, by simp (disch := omega) only [go_sem, ↓reduceIte, Nat.reduceEqDiff] <;> rfl, rfl⟩, trivial⟩
      · (repeat' (first | exact trivial | refine mapSl_cons (by simp (disch := omega) only [go_sem, ↓reduceIte, Nat.reduceEqDiff] <;> rfl) ?_ ?_ | exact VMap.junk _ | exact VMap.sc _ | exact VMap.clo rfl | exact VMap.sl rfl (by omega) | exact VMap.cap rfl (by omega) | exact VMap.pt rfl (by omega) | exact VMap.nil_sl _ _ _ | exact VMap.int (by first | rfl | omega | (dsimp only; omega))))
    · have q1 := decide_eq_false (p := (i : Int) < (M.length : Int)) (by omega)
      have hin : i = M.length := by omega
      subst hin
      rw [List.take_of_length_le (Nat.le_refl _)]
      (repeat (first | refine DO.nil (by kernel_rfl) ?_ | (with_reducible first | apply oz1 | apply oz2 | apply oz3 | apply oz4 | apply oz5 | apply oz6 | apply oz7 | apply oz8 | apply oz9 | apply ozb | apply ozc | apply oze | apply ozf | apply ozg | apply ozh | apply ozi | apply ozj | apply ozk | refine ozd (by decide) ?_) | ((first | apply SO.call | apply DO.call); (iterate 3 (focus (simp (disch := omega) only [go_sem, ↓reduceIte, Nat.reduceEqDiff, Nat.reduceLT, Nat.reduceLeDiff, Nat.reduceAdd, Nat.reduceMul, Nat.reduceSub, reduceCtorEq, Nat.reduceBEq, Int.reduceToNat, Int.reducePow, if_pos, if_neg, q1] <;> rfl))); (first | apply SCall.ofX | apply DCall.ofX); (focus (first | assumption)); (focus (simp (disch := omega) only [go_sem, ↓reduceIte, Nat.reduceEqDiff, Nat.reduceLT, Nat.reduceLeDiff, Nat.reduceAdd, Nat.reduceMul, Nat.reduceSub, reduceCtorEq, Nat.reduceBEq, Int.reduceToNat, Int.reducePow, if_pos, if_neg, q1] <;> rfl))) | ((with_reducible first | apply SC.condB | apply SC.region | apply SO.run | apply DO.run); (focus (simp (disch := omega) only [go_sem, ↓reduceIte, Nat.reduceEqDiff, Nat.reduceLT, Nat.reduceLeDiff, Nat.reduceAdd, reduceCtorEq, q1] <;> rfl)); (first | refine pickT ?_ | refine pickF ?_ | fail_if_success with_reducible refine pickA ?_)) | ((with_reducible refine SC.draw Tab.mixed ?_ ?_); (focus (first | rfl | simp (disch := omega) only [go_sem, ↓reduceIte, Nat.reduceEqDiff, Nat.reduceLT, Nat.reduceLeDiff, Nat.reduceAdd, Nat.reduceMul, Nat.reduceSub, reduceCtorEq, Nat.reduceBEq, Int.reduceToNat, Int.reducePow, if_pos, if_neg, q1]))) | (with_reducible apply SC.ops)))
      refine retI_ret Try.results13 (by simp (disch := omega) only [go_sem, ↓reduceIte, Nat.reduceEqDiff, Nat.reduceLeDiff, Nat.reduceAdd] <;> rfl) ?_
      refine Le.slots (leSl_cons (by simp (disch := omega) only [go_sem, ↓reduceIte] <;> rfl) (VLe.refl rfl) leSl_nil) ?_ (Nat.le_refl _)
      (refine fun id k h => ?_; simp only [hget] at h ⊢; (repeat' (split at h)) <;> first | (cases h; done) | (simp (disch := omega) only [if_pos, if_neg]; exact h))

theorem frzAll_rows {k w : Nat} {hp : List (Nat × Blk)} {x y : V} {ids : List Nat} (h : frz (k + 1) hp x = some (y, ids)) : ∀ {rs : List (List V)}, frzAll (frz (k + 1) hp) (imR w rs ++ [x]) = some (imR w rs ++ [y], ids)
  | [] => by
    show frzAll _ [x] = some ([y], ids)
    simp only [frzAll, h, Option.bind_some, Option.map_some, List.append_nil]
  | r :: rs => by
    have ih := frzAll_rows (w := w) h (rs := rs)
    show frzAll _ (V.im r w :: (imR w rs ++ [x])) = some (V.im r w :: (imR w rs ++ [y]), ids)
    simp only [frzAll, ih]
    rfl
theorem modOnly {p w id n m : Nat} {c : Option Nat} (h : m ≤ id) : Only (fun i => m ≤ i) (.ag [.sc (.int .u64 p), .sc (.int .i64 w), .sl id 0 n 1 c]) := by
  refine .ag fun y hy => ?_
  simp only [List.mem_cons, List.mem_nil_iff, or_false] at hy
  rcases hy with rfl | rfl | rfl
  · exact .clo rfl
  · exact .clo rfl
  · exact .sl h
set_option maxRecDepth 4000 in
set_option maxHeartbeats 1000000 in
theorem rwith_s {p n w : Nat} {M : List (List Nat)} {b : List Nat} (hM : MV p n w M) (hb : Rw p w b) (hn : n ≤ 1000000) (hw : w ≤ 1000000) :
    Spec Try.prog 36 [md p w M, .im (nv b) w] (md p w (M ++ [b])) := by
  have cq := rcopied_q hM hn hw
  have hl := hM.1
  subst hl
  have g3 := nv_len b
  rw [hb.1] at g3
  have g5 := imR_len w M
  have g6 : (imR w (nR M)).take M.length = imR w (nR M) := List.take_of_length_le (by omega)
  have t6 : (nv b).take w = nv b := List.take_of_length_le (by rw [g3]; exact Nat.le_refl _)
  have t7 := nv_one b
  have t8 := nv_clo b
  unfold md mv at *
  refine Spec.run Try.func36 rfl Try.ntmps36 (by simp) (by simp (disch := omega) only [go_sem, Nat.reduceAdd]; rfl) fun B hB => ?_
  (repeat (first | refine DO.nil (by kernel_rfl) ?_ | (with_reducible first | apply oz1 | apply oz2 | apply oz3 | apply oz4 | apply oz5 | apply oz6 | apply oz7 | apply oz8 | apply oz9 | apply ozb | apply ozc | apply oze | apply ozf | apply ozg | apply ozh | apply ozi | apply ozj | apply ozk | refine ozd (by decide) ?_) | ((first | apply SO.call | apply DO.call); (iterate 3 (focus (simp (disch := omega) only [go_sem, ↓reduceIte] <;> rfl))); (first | apply SCall.ofX | apply DCall.ofX); (focus (first | assumption)); (focus (simp (disch := omega) only [go_sem, ↓reduceIte, Nat.reduceEqDiff, Nat.reduceLT, Nat.reduceLeDiff, Nat.reduceAdd, Nat.reduceMul, Nat.reduceSub, reduceCtorEq, Nat.reduceBEq, Int.reduceToNat, Int.reducePow, if_pos, if_neg] <;> rfl))) | ((with_reducible first | apply SC.condB | apply SC.region | apply SO.run | apply DO.run); (focus (simp (disch := omega) only [go_sem, ↓reduceIte, Nat.reduceEqDiff, Nat.reduceLeDiff, Nat.reduceAdd, reduceCtorEq] <;> rfl)); (first | refine pickT ?_ | refine pickF ?_ | fail_if_success with_reducible refine pickA ?_)) | ((with_reducible refine SC.draw Tab.mixed ?_ ?_); (focus (first | rfl | simp (disch := omega) only [go_sem, ↓reduceIte, Nat.reduceEqDiff, Nat.reduceLT, Nat.reduceLeDiff, Nat.reduceAdd, Nat.reduceMul, Nat.reduceSub, reduceCtorEq, Nat.reduceBEq, Int.reduceToNat, Int.reducePow, if_pos, if_neg]))) | (with_reducible apply SC.ops)))
  refine SO.inlQ (by simp (disch := omega) only [go_sem] <;> rfl) Tab.go13 (by simp (disch := omega) only [go_sem, ↓reduceIte] <;> rfl) (by simp (disch := omega) only [go_sem] <;> rfl) (SInlQ.new cq.toQ ?_ ?_ ?_)
  · exact klc (by omega) (klc (by omega) kln)
  · rintro x hp' nx' ⟨rfl, rfl, rfl⟩
    exact ⟨modOnly (by omega), ⟨fun y hy => Only.clo (List.all_eq_true.1 (imR_clo w _) y hy), trivial⟩⟩
  · rintro x hp' nx' ⟨rfl, rfl, rfl⟩
    (repeat (first | refine DO.nil (by kernel_rfl) ?_ | (with_reducible first | apply oz1 | apply oz2 | apply oz3 | apply oz4 | apply oz5 | apply oz6 | apply oz7 | apply oz8 | apply oz9 | apply ozb | apply ozc | apply oze | apply ozf | apply ozg | apply ozh | apply ozi | apply ozj | apply ozk | refine ozd (by decide) ?_) | ((first | apply SO.call | apply DO.call); (iterate 3 (focus (simp (disch := omega) only [go_sem, ↓reduceIte, Nat.reduceEqDiff, Nat.reduceLT, Nat.reduceLeDiff, Nat.reduceAdd, Nat.reduceMul, Nat.reduceSub, reduceCtorEq, Nat.reduceBEq, Int.reduceToNat, Int.reducePow, if_pos, if_neg, g3, g5, g6, t6, t7, t8, imR_snoc] <;> rfl))); (first | apply SCall.ofX | apply DCall.ofX); (focus (first | assumption)); (focus (simp (disch := omega) only [go_sem, ↓reduceIte, Nat.reduceEqDiff, Nat.reduceLT, Nat.reduceLeDiff, Nat.reduceAdd, Nat.reduceMul, Nat.reduceSub, reduceCtorEq, Nat.reduceBEq, Int.reduceToNat, Int.reducePow, if_pos, if_neg, g3, g5, g6, t6, t7, t8, imR_snoc] <;> rfl))) | ((with_reducible first | apply SC.condB | apply SC.region | apply SO.run | apply DO.run); (focus (simp (disch := omega) only [go_sem, ↓reduceIte, Nat.reduceEqDiff, Nat.reduceLT, Nat.reduceLeDiff, Nat.reduceAdd, reduceCtorEq, if_pos, g3, g5, g6, t7] <;> rfl)); (first | refine pickT ?_ | refine pickF ?_ | fail_if_success with_reducible refine pickA ?_)) | ((with_reducible refine SC.draw Tab.mixed ?_ ?_); (focus (first | rfl | simp (disch := omega) only [go_sem, ↓reduceIte, Nat.reduceEqDiff, Nat.reduceLT, Nat.reduceLeDiff, Nat.reduceAdd, Nat.reduceMul, Nat.reduceSub, reduceCtorEq, Nat.reduceBEq, Int.reduceToNat, Int.reducePow, if_pos, if_neg, g3, g5, g6, t6, t7, t8, imR_snoc]))) | (with_reducible apply SC.ops)))
    have hF := frzAll_rows (k := 5) (w := w) (rs := nR M) (x := .sl 8 0 w 1 none) (y := .im (nv b) w) (ids := [8]) (hp := [(10, (⟨44, imR w (nR M) ++ [V.sl 8 0 w 1 none], false⟩ : Blk)), (9, ⟨44, [V.sl 8 0 w 1 none], false⟩), (8, ⟨26, nv b, false⟩), (6, ⟨29, [.sc (.int .u64 p), .sc (.int .i64 w), .sl 10 0 (M.length + 1) 1 none], false⟩), (1, ⟨29, [.sc (.int .u64 p), .sc (.int .i64 w), .sl 10 0 (M.length + 1) 1 none], false⟩), (0, ⟨29, [.sc (.int .u64 p), .sc (.int .i64 w), .im (imR w (nR M)) M.length], false⟩)]) (by simp (disch := omega) only [go_sem, ↓reduceIte, Nat.reduceEqDiff, Nat.reduceAdd, if_pos, g3, t6, t8] <;> rfl)
    have h1 : (imR w (nR M) ++ [V.sl 8 0 w 1 none]).all clo = false := by rw [List.all_append]; simp [clo]
    have h2 : (imR w (nR M) ++ [V.sl 8 0 w 1 none]).length = M.length + 1 := by rw [List.length_append, g5]; rfl
    have h3 : (imR w (nR M) ++ [V.sl 8 0 w 1 none]).take (M.length + 1) = imR w (nR M) ++ [V.sl 8 0 w 1 none] := List.take_of_length_le (by omega)
    have h4 := imR_snoc w M b
    have h5 : (M ++ [b]).length = M.length + 1 := by simp
    rw [← h4, h5]
    generalize hX : imR w (nR M) ++ [V.sl 8 0 w 1 none] = X at *
    exact retQ_ret Try.results36 (by simp (disch := omega) only [go_sem, ↓reduceIte, Nat.reduceEqDiff, Nat.reduceLeDiff, Nat.reduceAdd] <;> rfl) (by simp (disch := omega) only [go_sem, ↓reduceIte, Nat.reduceLeDiff, if_pos, hF, h1, h2, h3] <;> rfl) rfl
end Go.Proofs.Ytpbomhmflllemaa

/- The reference: unit, Vector, Made. -/
namespace Go.Proofs.Ytpbomhmflllemaa
open Go.RowKit

theorem runit_s {n i : Nat} (hi : i < n) (hn : n ≤ 1000000) : Spec Try.prog 62 [.sc (.int .i64 n), .sc (.int .i64 i)] (.im (nv (unitL n i)) n) := by
  have z1 := nv_repl n
  have y1 := nv_len (List.replicate n 0)
  rw [List.length_replicate] at y1
  have y2 : (nv (List.replicate n 0)).set i (V.sc (.int .u64 1)) = nv (unitL n i) := nv_set (List.replicate n 0) i 1
  have y3 := nv_len (unitL n i)
  rw [show (unitL n i).length = n by simp [unitL]] at y3
  have y4 : (nv (unitL n i)).take n = nv (unitL n i) := List.take_of_length_le (by omega)
  have y5 := nv_clo (unitL n i)
  refine Spec.run Try.func62 rfl Try.ntmps62 (by simp) (by simp (disch := omega) only [go_sem, Nat.reduceAdd]; rfl) fun B hB => ?_
  (repeat (first | refine DO.nil (by kernel_rfl) ?_ | (with_reducible first | apply oz1 | apply oz2 | apply oz3 | apply oz4 | apply oz5 | apply oz6 | apply oz7 | apply oz8 | apply oz9 | apply ozb | apply ozc | apply oze | apply ozf | apply ozg | apply ozh | apply ozi | apply ozj | apply ozk | refine ozd (by decide) ?_) | ((first | apply SO.call | apply DO.call); (iterate 3 (focus (simp (disch := omega) only [go_sem, ↓reduceIte, Nat.reduceEqDiff, Nat.reduceLT, Nat.reduceLeDiff, Nat.reduceAdd, Nat.reduceMul, Nat.reduceSub, reduceCtorEq, Nat.reduceBEq, Int.reduceToNat, Int.reducePow, if_pos, if_neg, z1, y1, y2] <;> rfl))); (first | apply SCall.ofX | apply DCall.ofX); (focus (first | assumption)); (focus (simp (disch := omega) only [go_sem, ↓reduceIte, Nat.reduceEqDiff, Nat.reduceLT, Nat.reduceLeDiff, Nat.reduceAdd, Nat.reduceMul, Nat.reduceSub, reduceCtorEq, Nat.reduceBEq, Int.reduceToNat, Int.reducePow, if_pos, if_neg, z1, y1, y2] <;> rfl))) | ((with_reducible first | apply SC.condB | apply SC.region | apply SO.run | apply DO.run); (focus (simp (disch := omega) only [go_sem, ↓reduceIte, Nat.reduceEqDiff, Nat.reduceLT, reduceCtorEq, if_pos, z1, y1, y2] <;> rfl)); (first | refine pickT ?_ | refine pickF ?_ | fail_if_success with_reducible refine pickA ?_)) | ((with_reducible refine SC.draw Tab.mixed ?_ ?_); (focus (first | rfl | simp (disch := omega) only [go_sem, ↓reduceIte, Nat.reduceEqDiff, Nat.reduceLT, Nat.reduceLeDiff, Nat.reduceAdd, Nat.reduceMul, Nat.reduceSub, reduceCtorEq, Nat.reduceBEq, Int.reduceToNat, Int.reducePow, if_pos, if_neg, z1, y1, y2]))) | (with_reducible apply SC.ops)))
  exact retQ_ret Try.results62 (by simp (disch := omega) only [go_sem, ↓reduceIte] <;> rfl) (by simp (disch := omega) only [go_sem, ↓reduceIte, if_pos, y3, y4, y5] <;> rfl) rfl

set_option maxRecDepth 4000 in
theorem rvector_s {p n : Nat} {l : List Nat} (hp : 0 < p) (hp2 : p ≤ 2147483648) (hu : ∀ x ∈ l, x < 4294967296) (hn : n ≤ 1000000) :
    Spec Try.prog 30 [.im (uv l) l.length, .sc (.int .u64 p), .sc (.int .i64 n)] (.im (nv (partL p l n n)) n) := by
  have z1 := nv_repl n
  have g2 := uv_len l
  refine Spec.run Try.func30 rfl Try.ntmps30 (by simp) (by simp (disch := omega) only [go_sem, Nat.reduceAdd]; rfl) fun B hB => ?_
  (repeat (first | refine DO.nil (by kernel_rfl) ?_ | (with_reducible first | apply oz1 | apply oz2 | apply oz3 | apply oz4 | apply oz5 | apply oz6 | apply oz7 | apply oz8 | apply oz9 | apply ozb | apply ozc | apply oze | apply ozf | apply ozg | apply ozh | apply ozi | apply ozj | apply ozk | refine ozd (by decide) ?_) | ((first | apply SO.call | apply DO.call); (iterate 3 (focus (simp (disch := omega) only [go_sem, ↓reduceIte, Nat.reduceEqDiff, Nat.reduceLT, Nat.reduceLeDiff, Nat.reduceAdd, Nat.reduceMul, Nat.reduceSub, reduceCtorEq, Nat.reduceBEq, Int.reduceToNat, Int.reducePow, if_pos, if_neg] <;> rfl))); (first | apply SCall.ofX | apply DCall.ofX); (focus (first | assumption)); (focus (simp (disch := omega) only [go_sem, ↓reduceIte, Nat.reduceEqDiff, Nat.reduceLT, Nat.reduceLeDiff, Nat.reduceAdd, Nat.reduceMul, Nat.reduceSub, reduceCtorEq, Nat.reduceBEq, Int.reduceToNat, Int.reducePow, if_pos, if_neg] <;> rfl))) | ((with_reducible first | apply SC.condB | apply SC.region | apply SO.run | apply DO.run); (focus (simp (disch := omega) only [go_sem, ↓reduceIte, Nat.reduceEqDiff, reduceCtorEq, if_pos] <;> rfl)); (first | refine pickT ?_ | refine pickF ?_ | fail_if_success with_reducible refine pickA ?_)) | ((with_reducible refine SC.draw Tab.mixed ?_ ?_); (focus (first | rfl | simp (disch := omega) only [go_sem, ↓reduceIte, Nat.reduceEqDiff, Nat.reduceLT, Nat.reduceLeDiff, Nat.reduceAdd, Nat.reduceMul, Nat.reduceSub, reduceCtorEq, Nat.reduceBEq, Int.reduceToNat, Int.reducePow, if_pos, if_neg]))) | (with_reducible apply SC.ops)))
  refine SC.loop (fun k : Nat => ⟨[(0, .im (uv l) l.length), (1, .sc (.int .u64 p)), (2, .sc (.int .i64 n)), (7, .sl 0 0 n 1 (some n)), (8, .sc (.int .i64 k))], [(0, ⟨26, nv (partL p l n k), false⟩)], 1, 33⟩)
    (fun k => k ≤ n) (fun k => n - k) 0 ?_ ?_ ?_
  · rw [partL_zero, ← z1]
    (refine Le.slots ?_ ?_ ?_ <;> (repeat' (first | (exact fun _ _ h => h) | exact Nat.le_refl _ | exact leSl_nil | refine leSl_cons (by simp (disch := omega) only [go_sem, ↓reduceIte, Nat.reduceEqDiff, reduceCtorEq] <;> rfl) ?_ ?_ | exact VLe.junk _ | exact VLe.refl rfl | exact VLe.nil_sl _ _ _ | exact VLe.int (by first | rfl | omega | (dsimp only; omega)) | exact VLe.bool rfl | exact VLe.sl rfl (by first | rfl | omega) | exact VLe.cap rfl (by first | rfl | omega) | exact VLe.im rfl rfl | omega | (refine fun id k h => ?_; simp only [hget] at h ⊢; (repeat' (split at h)) <;> first | (cases h; done) | (simp (disch := omega) only [if_pos, if_neg]; exact h)))))
  · exact Nat.zero_le _
  · intro k hk K hK
    have y1 := nv_len (partL p l n k)
    rw [partL_len] at y1
    have fin : ∀ R0, partL p l n k = R0 → R0 = partL p l n n → (nv R0).all clo = true ∧ (nv R0).take n = nv R0 ∧ (nv R0).length = n := by
      rintro _ rfl h
      exact ⟨nv_clo _, List.take_of_length_le (by omega), y1⟩
    by_cases hkc : k < n
    · have q2 := decide_eq_true (p := (k : Int) < (n : Int)) (by omega)
      by_cases hkl : k < l.length
      · have q4 := decide_eq_true (p := (k : Int) < (l.length : Int)) (by omega)
        have g3 := uv_get hkl
        have g5 := nv_set (partL p l n k) k (l.getD k 0 % p)
        rw [partL_set hkc] at g5
        have e1 : ((l.getD k 0 : Nat) : Int) % (p : Int) = ((l.getD k 0 % p : Nat) : Int) := by simp
        have e2 := hu _ (getD_mem (d := 0) hkl)
        have e3 := Nat.mod_lt (l.getD k 0) hp
        generalize l.getD k 0 % p = z at *
        generalize l.getD k 0 = x at *
        (repeat (first | refine DO.nil (by kernel_rfl) ?_ | (with_reducible first | apply oz1 | apply oz2 | apply oz3 | apply oz4 | apply oz5 | apply oz6 | apply oz7 | apply oz8 | apply oz9 | apply ozb | apply ozc | apply oze | apply ozf | apply ozg | apply ozh | apply ozi | apply ozj | apply ozk | refine ozd (by decide) ?_) | ((first | apply SO.call | apply DO.call); (iterate 3 (focus (simp (disch := omega) only [go_sem, ↓reduceIte, Nat.reduceEqDiff, Nat.reduceLT, Nat.reduceLeDiff, Nat.reduceAdd, Nat.reduceMul, Nat.reduceSub, reduceCtorEq, Nat.reduceBEq, Int.reduceToNat, Int.reducePow, if_pos, if_neg, q2, q4, g2, g3, g5, e1, y1, List.getElem?_drop] <;> rfl))); (first | apply SCall.ofX | apply DCall.ofX); (focus (first | assumption)); (focus (simp (disch := omega) only [go_sem, ↓reduceIte, Nat.reduceEqDiff, Nat.reduceLT, Nat.reduceLeDiff, Nat.reduceAdd, Nat.reduceMul, Nat.reduceSub, reduceCtorEq, Nat.reduceBEq, Int.reduceToNat, Int.reducePow, if_pos, if_neg, q2, q4, g2, g3, g5, e1, y1, List.getElem?_drop] <;> rfl))) | ((with_reducible first | apply SC.condB | apply SC.region | apply SO.run | apply DO.run); (focus (simp (disch := omega) only [go_sem, ↓reduceIte, Nat.reduceEqDiff, reduceCtorEq, if_pos, if_neg, q2, q4, g2, g3, g5, e1, y1, List.getElem?_drop] <;> rfl)); (first | refine pickT ?_ | refine pickF ?_ | fail_if_success with_reducible refine pickA ?_)) | ((with_reducible refine SC.draw Tab.mixed ?_ ?_); (focus (first | rfl | simp (disch := omega) only [go_sem, ↓reduceIte, Nat.reduceEqDiff, Nat.reduceLT, Nat.reduceLeDiff, Nat.reduceAdd, Nat.reduceMul, Nat.reduceSub, reduceCtorEq, Nat.reduceBEq, Int.reduceToNat, Int.reducePow, if_pos, if_neg, q2, q4, g2, g3, g5, e1, y1, List.getElem?_drop]))) | (with_reducible apply SC.ops)))
        refine hK _ (k + 1) ?_ (by omega) (by omega)
        (refine Le.slots ?_ ?_ ?_ <;> (repeat' (first | (exact fun _ _ h => h) | exact Nat.le_refl _ | exact leSl_nil | refine leSl_cons (by simp (disch := omega) only [go_sem, ↓reduceIte, Nat.reduceEqDiff, reduceCtorEq] <;> rfl) ?_ ?_ | exact VLe.junk _ | exact VLe.refl rfl | exact VLe.nil_sl _ _ _ | exact VLe.int (by first | rfl | omega | (dsimp only; omega)) | exact VLe.bool rfl | exact VLe.sl rfl (by first | rfl | omega) | exact VLe.cap rfl (by first | rfl | omega) | exact VLe.im rfl rfl | omega | (refine fun id k h => ?_; simp only [hget] at h ⊢; (repeat' (split at h)) <;> first | (cases h; done) | (simp (disch := omega) only [if_pos, if_neg]; exact h)))))
      · have q4 := decide_eq_false (p := (k : Int) < (l.length : Int)) (by omega)
        have hfull := partL_end (p := p) (cols := n) (k := k) (l := l) (.inr (by omega))
        obtain ⟨f1, f2, f3⟩ := fin _ rfl hfull
        rw [hfull] at *
        (repeat (first | refine DO.nil (by kernel_rfl) ?_ | (with_reducible first | apply oz1 | apply oz2 | apply oz3 | apply oz4 | apply oz5 | apply oz6 | apply oz7 | apply oz8 | apply oz9 | apply ozb | apply ozc | apply oze | apply ozf | apply ozg | apply ozh | apply ozi | apply ozj | apply ozk | refine ozd (by decide) ?_) | ((first | apply SO.call | apply DO.call); (iterate 3 (focus (simp (disch := omega) only [go_sem, ↓reduceIte, Nat.reduceEqDiff, Nat.reduceLT, Nat.reduceLeDiff, Nat.reduceAdd, Nat.reduceMul, Nat.reduceSub, reduceCtorEq, Nat.reduceBEq, Int.reduceToNat, Int.reducePow, if_pos, if_neg, q2, q4, g2] <;> rfl))); (first | apply SCall.ofX | apply DCall.ofX); (focus (first | assumption)); (focus (simp (disch := omega) only [go_sem, ↓reduceIte, Nat.reduceEqDiff, Nat.reduceLT, Nat.reduceLeDiff, Nat.reduceAdd, Nat.reduceMul, Nat.reduceSub, reduceCtorEq, Nat.reduceBEq, Int.reduceToNat, Int.reducePow, if_pos, if_neg, q2, q4, g2] <;> rfl))) | ((with_reducible first | apply SC.condB | apply SC.region | apply SO.run | apply DO.run); (focus (simp (disch := omega) only [go_sem, ↓reduceIte, Nat.reduceEqDiff, Nat.reduceLT, reduceCtorEq, q2, q4] <;> rfl)); (first | refine pickT ?_ | refine pickF ?_ | fail_if_success with_reducible refine pickA ?_)) | ((with_reducible refine SC.draw Tab.mixed ?_ ?_); (focus (first | rfl | simp (disch := omega) only [go_sem, ↓reduceIte, Nat.reduceEqDiff, Nat.reduceLT, Nat.reduceLeDiff, Nat.reduceAdd, Nat.reduceMul, Nat.reduceSub, reduceCtorEq, Nat.reduceBEq, Int.reduceToNat, Int.reducePow, if_pos, if_neg, q2, q4, g2]))) | (with_reducible apply SC.ops)))
        exact retQ_ret Try.results30 (by simp (disch := omega) only [go_sem, ↓reduceIte] <;> rfl) (by simp (disch := omega) only [go_sem, ↓reduceIte, if_pos, f1, f2, f3] <;> rfl) rfl
    · have q2 := decide_eq_false (p := (k : Int) < (n : Int)) (by omega)
      have hfull := partL_end (p := p) (cols := n) (k := k) (l := l) (.inl (by omega))
      obtain ⟨f1, f2, f3⟩ := fin _ rfl hfull
      rw [hfull] at *
      (repeat (first | refine DO.nil (by kernel_rfl) ?_ | (with_reducible first | apply oz1 | apply oz2 | apply oz3 | apply oz4 | apply oz5 | apply oz6 | apply oz7 | apply oz8 | apply oz9 | apply ozb | apply ozc | apply oze | apply ozf | apply ozg | apply ozh | apply ozi | apply ozj | apply ozk | refine ozd (by decide) ?_) | ((first | apply SO.call | apply DO.call); (iterate 3 (focus (simp (disch := omega) only [go_sem, ↓reduceIte, Nat.reduceEqDiff, Nat.reduceLT, Nat.reduceLeDiff, Nat.reduceAdd, Nat.reduceMul, Nat.reduceSub, reduceCtorEq, Nat.reduceBEq, Int.reduceToNat, Int.reducePow, if_pos, if_neg, q2] <;> rfl))); (first | apply SCall.ofX | apply DCall.ofX); (focus (first | assumption)); (focus (simp (disch := omega) only [go_sem, ↓reduceIte, Nat.reduceEqDiff, Nat.reduceLT, Nat.reduceLeDiff, Nat.reduceAdd, Nat.reduceMul, Nat.reduceSub, reduceCtorEq, Nat.reduceBEq, Int.reduceToNat, Int.reducePow, if_pos, if_neg, q2] <;> rfl))) | ((with_reducible first | apply SC.condB | apply SC.region | apply SO.run | apply DO.run); (focus (simp (disch := omega) only [go_sem, ↓reduceIte, Nat.reduceEqDiff, Nat.reduceLT, reduceCtorEq, q2] <;> rfl)); (first | refine pickT ?_ | refine pickF ?_ | fail_if_success with_reducible refine pickA ?_)) | ((with_reducible refine SC.draw Tab.mixed ?_ ?_); (focus (first | rfl | simp (disch := omega) only [go_sem, ↓reduceIte, Nat.reduceEqDiff, Nat.reduceLT, Nat.reduceLeDiff, Nat.reduceAdd, Nat.reduceMul, Nat.reduceSub, reduceCtorEq, Nat.reduceBEq, Int.reduceToNat, Int.reducePow, if_pos, if_neg, q2]))) | (with_reducible apply SC.ops)))
      exact retQ_ret Try.results30 (by simp (disch := omega) only [go_sem, ↓reduceIte] <;> rfl) (by simp (disch := omega) only [go_sem, ↓reduceIte, if_pos, f1, f2, f3] <;> rfl) rfl

theorem rmade_s {p kp kc : Nat} {L : List (List Nat)} (hp : 0 < p) (hp2 : p ≤ 2147483648) (hk : kp ≤ 255) (hc : kc ≤ 255) (hpk : primesL.getD (kp % 15) 0 = p) (hu : ∀ l ∈ L, ∀ x ∈ l, x < 4294967296) (hL : L.length ≤ 9223372036854775807) :
    Spec Try.prog 12 [.ag [.sc (.int .u8 kp), .sc (.int .u8 kc), .im (uR L) L.length]] (md p (kc % 6) (sizedL p L (min L.length 4) (kc % 6))) := by
  have c1 := rsized_s (kc := kc) (rows := min L.length 4) (cols := kc % 6) hp hp2 hk hpk hu (by omega) (by omega)
  have e1 : (if (4 : Int) < (L.length : Int) then 4 else (L.length : Int)) = ((min L.length 4 : Nat) : Int) := by split <;> omega
  have e2 : (kc : Int) % 6 = ((kc % 6 : Nat) : Int) := by omega
  unfold md mv at *
  generalize sizedL p L (min L.length 4) (kc % 6) = Z at *
  generalize min L.length 4 = a at *
  generalize hb : kc % 6 = b at *
  refine Spec.run Try.func12 rfl Try.ntmps12 (by simp) (by simp (disch := omega) only [go_sem]; rfl) fun B hB => ?_
  have gl := uR_len L
  (repeat (first | refine DO.nil (by kernel_rfl) ?_ | (with_reducible first | apply oz1 | apply oz2 | apply oz3 | apply oz4 | apply oz5 | apply oz6 | apply oz7 | apply oz8 | apply oz9 | apply ozb | apply ozc | apply oze | apply ozf | apply ozg | apply ozh | apply ozi | apply ozj | apply ozk | refine ozd (by decide) ?_) | ((first | apply SO.call | apply DO.call); (iterate 3 (focus (simp (disch := omega) only [go_sem, ↓reduceIte, Nat.reduceEqDiff, Nat.reduceLT] <;> rfl))); (first | apply SCall.ofX | apply DCall.ofX); (focus (first | assumption)); (focus (simp (disch := omega) only [go_sem] <;> rfl))) | ((with_reducible first | apply SC.condB | apply SC.region | apply SO.run | apply DO.run); (focus (simp (disch := omega) only [go_sem, ↓reduceIte, Nat.reduceEqDiff, Nat.reduceLT, Nat.reduceLeDiff, Nat.reduceAdd, reduceCtorEq, if_neg, e1, e2] <;> rfl)); (first | refine pickT ?_ | refine pickF ?_ | fail_if_success with_reducible refine pickA ?_)) | ((with_reducible refine SC.draw Tab.mixed ?_ ?_); (focus (first | rfl | simp (disch := omega) only [go_sem, ↓reduceIte, Nat.reduceEqDiff, Nat.reduceLT, Nat.reduceLeDiff, Nat.reduceAdd, Nat.reduceMul, Nat.reduceSub, reduceCtorEq, Nat.reduceBEq, Int.reduceToNat, Int.reducePow, if_pos, if_neg, e1, e2, gl]))) | (with_reducible apply SC.ops)))
  exact retQ_ret Try.results12 (by simp (disch := omega) only [go_sem, ↓reduceIte, Nat.reduceEqDiff, Nat.reduceLeDiff, Nat.reduceAdd] <;> rfl) (by simp (disch := omega) only [go_sem, ↓reduceIte] <;> rfl) rfl
end Go.Proofs.Ytpbomhmflllemaa
