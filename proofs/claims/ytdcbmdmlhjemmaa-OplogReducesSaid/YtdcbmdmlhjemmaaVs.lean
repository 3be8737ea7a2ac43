/- Texts joined: Hj Hk Yg Yh Yi Yj Ki. -/
import Derived.Test.YtdcbmdmlhjemmaaVl
import Derived.Test.YtdcbmdmlhjemmaaVn
import Derived.Test.YtdcbmdmlhjemmaaVp
import Derived.Test.YtdcbmdmlhjemmaaVq
import Derived.Test.YtdcbmdmlhjemmaaVr
set_option linter.all false
open Nat renaming reduceEqDiff → zn1, reduceLT → zn2, reduceLeDiff → zn3, reduceAdd → zn4, reduceMul → zn5, reduceSub → zn6, reduceBEq → zn7, mul_one → zn8, zero_add → zn9, one_mul → zna, le_refl → znb, zero_le → znc, add_sub_cancel_left → znd, sub_eq_zero_of_le → zne, add_assoc → znf
open Int renaming reduceToNat → zi1, reducePow → zi2
open List renaming length_append → zl1, drop_zero → zl2, take_succ_cons → zl3, take_zero → zl4, getElem?_drop → zl5, append_assoc → zl6, nil_append → zl7, cons_append → zl8, drop_succ_cons → zl9, take_of_length_le → zla, getElem?_eq_getElem → zlb, getElem?_eq_some_iff → zlc, map_cons → zld, map_nil → zle, all_eq_true → zlf
namespace Go.Proofs.Ytdcbmdmlhjemmaa
open Go.RowKit
theorem inT {i n : Nat} (h : i < n) : Spec Try.prog 57 [.sc (.int .i64 i), .sc (.int .i64 n)] (.sc (.bool true)) := by
 have := inside_s i n
 rwa [decide_eq_true (by omega)] at this
set_option maxHeartbeats 4000000 in
theorem lvalidop_s {n : Nat} {o : OpL} (ho : OkOp n o) : Spec Try.prog 28 [.ag (opC o), .sc (.int .i64 n)] (.sc (.bool true)) := by
 have hi := inT ho.i
 have c0 := rvalid_i o.k OL ho.k (by have := OL_le; omega)
 rcases ho.c with ⟨e, hj, hij, hk⟩ | ⟨e, hj, hk⟩ | ⟨e, hj, hij⟩
 ·obtain ⟨kd, i, j, k⟩ := o
  simp only at e hj hij hk hi c0
  subst e; subst hk
  rw [opC_z]
  have c1 : Spec Try.prog 56 [.ag [.sc (.bool false), .im [] 0]] (.sc (.bool true)) := c0
  have hj' := inT hj
  have q1 : ((i : Int) != (j : Int)) = true := by simp; omega
  refine Spec.run Try.func28 rfl Try.ntmps28 (by simp) sF fun B hB => ?_
  (repeat (first | (with_reducible refine oA ?_) | ((apply SO.call); (iterate 3 (focus (simp (disch := omega) only [go_sem, ↓reduceIte, zn1] <;> rfl))); (apply SCall.ofX); (focus (assumption)); (focus (simp (disch := omega) only [go_sem] <;> rfl))) | ((with_reducible first | apply SC.condB | apply SC.region | apply SO.run); (focus (simp (disch := omega) only [go_sem, ↓reduceIte, zn1, zn3, zn4, reduceCtorEq, q1] <;> rfl)); (first | refine pickT ?_ | fail_if_success with_reducible refine pickA ?_)) | (with_reducible apply SC.ops)))
  exact retQ_ret Try.results28 sG sG rfl
 ·obtain ⟨kd, i, j, k⟩ := o
  simp only at e hj hk hi c0
  subst e; subst hk; subst hj
  rw [opC_z]
  have c1 : Spec Try.prog 56 [.ag [.sc (.bool false), .im [] 0]] (.sc (.bool true)) := c0
  refine Spec.run Try.func28 rfl Try.ntmps28 (by simp) sF fun B hB => ?_
  (repeat (first | (with_reducible refine oA ?_) | ((apply SO.call); (iterate 3 (focus (simp (disch := omega) only [go_sem, ↓reduceIte, zn1] <;> rfl))); (apply SCall.ofX); (focus (assumption)); (focus (simp (disch := omega) only [go_sem] <;> rfl))) | ((with_reducible first | apply SC.condB | apply SC.region | apply SO.run); (focus (simp (disch := omega) only [go_sem, ↓reduceIte, zn1, zn3, zn4, reduceCtorEq] <;> rfl)); (first | refine pT ?_ | refine pF ?_ | fail_if_success with_reducible refine pA ?_)) | (with_reducible apply SC.ops)))
  exact retQ_ret Try.results28 sG sG rfl
 ·obtain ⟨kd, i, j, k⟩ := o
  simp only at e hj hij hi c0
  subst e
  have hj' := inT hj
  have q1 : ((i : Int) != (j : Int)) = true := by simp; omega
  unfold iv sv at c0
  unfold opC sv
  simp only
  refine Spec.run Try.func28 rfl Try.ntmps28 (by simp) sF fun B hB => ?_
  (repeat (first | (with_reducible refine oA ?_) | ((apply SO.call); (iterate 3 (focus (simp (disch := omega) only [go_sem, ↓reduceIte, zn1] <;> rfl))); (apply SCall.ofX); (focus (assumption)); (focus (simp (disch := omega) only [go_sem] <;> rfl))) | ((with_reducible first | apply SC.condB | apply SC.region | apply SO.run); (focus (simp (disch := omega) only [go_sem, ↓reduceIte, zn1, zn2, zn3, zn4, reduceCtorEq, q1] <;> rfl)); (first | refine pT ?_ | refine pF ?_ | fail_if_success with_reducible refine pA ?_)) | (with_reducible apply SC.ops)))
  exact retQ_ret Try.results28 sG sG rfl
set_option maxHeartbeats 4000000 in
theorem lvalid_s {n : Nat} {l : List OpL} (hl : ∀ o ∈ l, OkOp n o) (hlen : l.length ≤ 1000000000) : Spec Try.prog 7 [.im (opsC l) l.length, .sc (.int .i64 n)] (.sc (.bool true)) := by
 refine Spec.run Try.func7 rfl Try.ntmps7 (by simp) sF fun B hB => ?_
 (repeat (first | (with_reducible refine oA ?_) | ((with_reducible apply SC.region); (focus (simp (disch := omega) only [go_sem, ↓reduceIte] <;> rfl)); (fail_if_success with_reducible refine pickA ?_))))
 refine SC.loop (fun k : Nat => ⟨[(0, .im (opsC l) l.length), (1, .sc (.int .i64 n)), (5, .sc (.int .i64 k))], [], 0, 19⟩)
  (fun k => k ≤ l.length) (fun k => l.length - k) 0 ?_ ?_ ?_
 ·(refine Le.slots ?_ ?_ ?_ <;> (repeat' (first | (exact fun _ _ h => h) | exact znb _ | exact leSl_nil | refine leSl_cons sG ?_ ?_ | exact VLe.refl rfl)))
 ·exact znc _
 ·intro k hk K hK
  by_cases hc : k < l.length
  ·have q1 : decide ((k : Int) < (l.length : Int)) = true := decide_eq_true (by omega)
   have g1 := opsC_drop hc
   have g2 : k * 5 < (opsC l).length := by rw [opsC_len]; omega
   have c1 := lvalidop_s (hl _ (getD_mem (d := ⟨0, 0, 0, 0⟩) hc))
   generalize l.getD k ⟨0, 0, 0, 0⟩ = op at *
   generalize (opsC l).drop ((k + 1) * 5) = D at *
   obtain ⟨kd, i, j, f⟩ := op
   unfold opC sv at c1 g1
   simp only [zl8, zl7] at g1
   simp only at c1
   (repeat (first | (with_reducible refine oA ?_) | ((apply SO.call); (iterate 3 (focus (simp (disch := omega) only [go_sem, ↓reduceIte, zn1] <;> rfl))); (apply SCall.ofX); (focus (assumption)); (focus (simp (disch := omega) only [go_sem] <;> rfl))) | ((with_reducible first | apply SC.condB | apply SC.region | apply SO.run); (focus (simp (disch := omega) only [go_sem, ↓reduceIte, zn1, zn2, zn3, reduceCtorEq, if_pos, q1, g1, g2] <;> rfl)); (first | refine pT ?_ | refine pF ?_ | fail_if_success with_reducible refine pA ?_)) | (with_reducible apply SC.ops)))
   refine hK _ (k + 1) ?_ (by omega) (by omega)
   (refine Le.slots ?_ ?_ ?_ <;> (repeat' (first | (exact fun _ _ h => h) | exact znb _ | exact leSl_nil | refine leSl_cons sG ?_ ?_ | exact VLe.refl rfl)))
  ·have q1 : decide ((k : Int) < (l.length : Int)) = false := decide_eq_false (by omega)
   (repeat (first | (with_reducible refine oA ?_) | ((with_reducible first | apply SC.condB | apply SC.region); (focus (simp (disch := omega) only [go_sem, ↓reduceIte, zn1, reduceCtorEq, q1] <;> rfl)); (first | refine pickF ?_ | fail_if_success with_reducible refine pickA ?_))))
   exact retQ_ret Try.results7 sG sG rfl
theorem wk_only {p oM oU oV h w nx : Nat} {a b c : List Nat} {W : List (List Int)} {P : Nat → Prop} (hP : ∀ i ∈ p :: oM :: oU :: oV :: (a ++ b ++ c), P i) : OnlyH P (wkH p oM oU oV h w a b c W) := by
 have l2 : P oM := hP _ (by simp)
 have l3 : P oU := hP _ (by simp)
 have l4 : P oV := hP _ (by simp)
 have lr : ∀ i ∈ a ++ b ++ c, P i := fun i hi => hP i (by simp only [List.mem_cons]; exact .inr (.inr (.inr (.inr hi))))
 refine ⟨fun y hy => ?_, fun y hy => ?_, fun y hy => ?_, fun y hy => ?_, OnlyH.rows (rI_clo W)⟩
 ·simp only [workC, List.mem_cons, List.not_mem_nil, or_false] at hy
  rcases hy with rfl | rfl | rfl | rfl | rfl | rfl | rfl | rfl | rfl <;> first | exact .sc _ | exact .sl l2 | exact .sl l3 | exact .sl l4
 ·obtain ⟨q, hq, rfl⟩ := List.mem_map.1 hy
  exact .sl (lr q (List.mem_append_left _ (List.mem_append_left _ hq)))
 ·obtain ⟨q, hq, rfl⟩ := List.mem_map.1 hy
  exact .sl (lr q (List.mem_append_left _ (List.mem_append_right _ hq)))
 ·obtain ⟨q, hq, rfl⟩ := List.mem_map.1 hy
  exact .sl (lr q (List.mem_append_right _ hq))
theorem wk_in {p oM oU oV h w nx : Nat} {a b c : List Nat} {W : List (List Int)} {P : Nat → Prop} (hP : ∀ i ∈ p :: oM :: oU :: oV :: (a ++ b ++ c), P i) : ∀ id k, hget (wkH p oM oU oV h w a b c W) id = some k → P id := by
 intro id k hk
 unfold wkH at hk
 simp only [hget] at hk
 split at hk
 ·rename_i e; exact hP _ (by simp [e])
 split at hk
 ·rename_i e; exact hP _ (by simp [e])
 split at hk
 ·rename_i e; exact hP _ (by simp [e])
 split at hk
 ·rename_i e; exact hP _ (by simp [e])
 ·obtain ⟨q, q1, _, q3, _⟩ := rows_inv hk
  rw [← q3]; exact hP _ (by simp only [List.mem_cons]; exact .inr (.inr (.inr (.inr (getD_mem' q1)))))
theorem workQ_new {h w nx : Nat} {W : List (List Int)} {x : V} {hp' : List (Nat × Blk)} {nx' : Nat} (hq : WorkQ h w W nx x hp' nx') : Only (fun i => nx ≤ i) x ∧ OnlyH (fun i => nx ≤ i) hp' ∧ ∀ id k, hget hp' id = some k → nx ≤ id := by
 obtain ⟨p, oM, oU, oV, a, b, c, hw, rfl, rfl⟩ := hq
 have hP : ∀ i ∈ p :: oM :: oU :: oV :: (a ++ b ++ c), nx ≤ i := fun i hi => (hw.rng i hi).1
 exact ⟨.pt (hP _ (by simp)), wk_only (nx := 0) hP, wk_in (nx := 0) hP⟩
theorem swapSub {p oM oU oV h nx i j : Nat} {a b c : List Nat} (hI : WIds p oM oU oV a b c h nx) (hi : i < h) (hj : j < h) : ∀ x ∈ swapN a i j ++ swapN b i j ++ c, x ∈ a ++ b ++ c := by
 have la := hI.la; have lb := hI.lb; have lc := hI.lc
 obtain ⟨_, _, _, _, _, _, _, _, _, _, n5⟩ := nodup_four hI.nod
 have hll : (a ++ b ++ c).length = 3 * h := by rw [zl1, zl1]; omega
 have lr : ∀ x ∈ a ++ b ++ c, x < nx := fun x hx => hI.rng x (by simp only [List.mem_cons]; exact .inr (.inr (.inr (.inr hx))))
 have s1 := nodup_swap (i := i) (j := j) lr n5 (by omega) (by omega)
 have s2 := nodup_swap (i := h + i) (j := h + j) (fun x hx => lr x (s1.2 x hx)) s1.1 (by rw [swapN_len]; omega) (by rw [swapN_len]; omega)
 rw [hI.swapL hi hj] at s2
 exact fun x hx => s1.2 x (s2.2 x hx)
theorem not2 {b0 b1 : Blk} : ∀ id k, hget [(1, b1), (0, b0)] id = some k → ¬ 2 ≤ id := by
 intro id k hk
 simp only [hget] at hk
 split at hk
 ·omega
 split at hk
 ·omega
 ·cases hk
set_option maxHeartbeats 16000000 in
set_option maxRecDepth 8000 in
theorem lapply_s {h w K : Nat} {M : List (List Int)} {l : List OpL} (hM : MI h w K M) (hl : ∀ o ∈ l, OkOp h o) (hS : ∀ i, i ≤ l.length → WI h w K (actsW h (M ++ idL h ++ idL h) (l.take i))) (hK : K ≤ 40000000000) (hll : l.length ≤ 1000000000) (hn : h ≤ 1000000) (hw : w ≤ 1000000) :
  Spec Try.prog 8 [.im (opsC l) l.length, mat w M] (.tu [mat w (actsO M l), .sc (.int .i64 0)]) := by
 have hml := hM.len
 have c1 := lvalid_s hl (by omega)
 have c2 := hstart_q 2 hM (by omega) hn hw
 have hW0 := hS 0 (znc _)
 rw [zl4] at hW0
 have hW0 : WI h w K (M ++ idL h ++ idL h) := hW0
 have eF : (actsW h (M ++ idL h ++ idL h) l).take h = actsO M l := by rw [actsW_take hW0 hl, work0_take hM]
 have e0 : actsW h (M ++ idL h ++ idL h) (l.drop 0) = actsW h (M ++ idL h ++ idL h) l := rfl
 have hFM := (hS l.length (znb _)).take
 rw [List.take_length, eF] at hFM
 have hFl := hFM.len
 generalize hFF : actsW h (M ++ idL h ++ idL h) l = FF at *
 generalize hF : actsO M l = F at *
 generalize M ++ idL h ++ idL h = W0 at *
 unfold mat at *
 rw [hml] at c2 ⊢
 refine Spec.run Try.func8 rfl Try.ntmps8 (by simp) sF fun B hB => ?_
 (repeat (first | (with_reducible refine oA ?_) | ((apply SO.call); (iterate 3 (focus (simp (disch := omega) only [go_sem, ↓reduceIte, zn1] <;> rfl))); (apply SCall.ofX); (focus (assumption)); (focus (simp (disch := omega) only [go_sem] <;> rfl))) | ((with_reducible first | apply SC.condB | apply SC.region | apply SO.run); (focus (simp (disch := omega) only [go_sem, ↓reduceIte, zn1, zn3, zn4, reduceCtorEq] <;> rfl)); (first | refine pickF ?_ | fail_if_success with_reducible refine pickA ?_)) | (with_reducible apply SC.ops)))
 refine SO.inlQ sG Tab.go29 sG sG (SInlQ.newR c2 ?_ ?_ ?_)
 ·exact klc (by omega) (klc (by omega) kln)
 ·exact fun x hp' nx' h => workQ_new h
 rintro x hp' nx ⟨p, oM, oU, oV, a0, b0, c0, hWk, rfl, rfl⟩
 (repeat (first | (with_reducible refine oA ?_) | ((with_reducible first | apply SC.region | apply SO.run); (focus (simp (disch := omega) only [go_sem, ↓reduceIte] <;> rfl)); (fail_if_success with_reducible refine pickA ?_))))
 refine SC.loop (fun x : Nat × List (List Int) × List Nat × List Nat => ⟨[(0, .im (opsC l) l.length), (3, .pt 0 0), (4, .pt 1 0), (7, .pt p 0), (8, .sc (.int .i64 x.1))], (1, ⟨28, [.sc (.int .i64 0), .sc (.int .i64 0), .sc (.slice none 0 0)], false⟩) :: (0, ⟨28, [.sc (.int .i64 h), .sc (.int .i64 w), .im (imR w (rI M)) h], false⟩) :: wkH p oM oU oV h w x.2.2.1 x.2.2.2 c0 x.2.1, nx, 73⟩)
  (fun x => x.1 ≤ l.length ∧ x.2.1 = actsW h W0 (l.take x.1) ∧ WIds p oM oU oV x.2.2.1 x.2.2.2 c0 h nx ∧ (∀ i ∈ p :: oM :: oU :: oV :: (x.2.2.1 ++ x.2.2.2 ++ c0), 2 ≤ i) ∧ actsW h x.2.1 (l.drop x.1) = FF) (fun x => l.length - x.1) (0, W0, a0, b0) ?_ ?_ ?_
 ·(refine Le.slots ?_ ?_ ?_ <;> (repeat' (first | (exact fun _ _ h => h) | exact znb _ | exact leSl_nil | refine leSl_cons sG ?_ ?_ | exact VLe.refl rfl)))
 ·exact ⟨znc _, rfl, ⟨hWk.la, hWk.lb, hWk.lc, hWk.nod, fun i hi => (hWk.rng i hi).2⟩, fun i hi => (hWk.rng i hi).1, e0⟩
 ·rintro ⟨i, W, a, b⟩ ⟨hi, hWe, hI, hge, hF2⟩ K2 hK2
  simp only at hi hWe hI hge hF2 ⊢
  have hW := hS i hi
  rw [← hWe] at hW
  by_cases hc : i < l.length
  ·have q1 := decide_eq_true (p := (i : Int) < (l.length : Int)) (by omega)
   have g1 := opsC_drop hc
   have g2 : i * 5 < (opsC l).length := by rw [opsC_len]; omega
   have hok := hl _ (getD_mem (d := ⟨0, 0, 0, 0⟩) hc)
   rw [actsW_drop hc] at hF2
   have hA' : actW h W (l.getD i ⟨0, 0, 0, 0⟩) = actsW h W0 (l.take (i + 1)) := by rw [actsW_succ hc, ← hWe]
   have hOL := OL_le
   have hnx : 2 < nx := by have := hge p (by simp); have := hI.rng p (by simp); omega
   generalize hop : l.getD i ⟨0, 0, 0, 0⟩ = op at *
   obtain ⟨kd, u, v, k⟩ := op
   generalize (opsC l).drop ((i + 1) * 5) = D at *
   have hu := hok.i
   have hk := hok.k
   have hcs := hok.c
   simp only at hu hk hcs
   unfold opC sv at g1
   simp only [zl8, zl7] at g1
   rcases hcs with ⟨rfl, hv, huv, rfl⟩ | ⟨rfl, rfl, rfl⟩ | ⟨rfl, hv, huv⟩
   ·have q3 : (((1 : Nat) : Int) == 1) = true := rfl
    have c5 := swap_q hW hI hu hv hn hw
    have hI' := hI.swap hu hv
    have hge' : ∀ x ∈ p :: oM :: oU :: oV :: (swapN a u v ++ swapN b u v ++ c0), 2 ≤ x := by
     intro x hx
     simp only [List.mem_cons] at hx
     rcases hx with rfl | rfl | rfl | rfl | hx
     ·exact hge _ (by simp)
     ·exact hge _ (by simp)
     ·exact hge _ (by simp)
     ·exact hge _ (by simp)
     ·exact hge _ (by simp only [List.mem_cons]; exact .inr (.inr (.inr (.inr (swapSub hI hu hv x hx)))))
    (repeat (first | (with_reducible refine SC.condB sF ?_; with_reducible refine pickT ?_) | (with_reducible refine oA ?_) | ((with_reducible apply SC.region); (focus (simp (disch := omega) only [go_sem, ↓reduceIte, zn1, reduceCtorEq, if_pos, q1, g1, g2, q3]; rfl)))))
    refine SC.drawT 11 (by simp only [zl3, zl4]; rfl) (by simp only [zl9, zl2]; rfl) Tab.mixed ?_ (by kernel_rfl) ?_
    ·exact klc (show 1 < nx by omega) (klc (show 0 < nx by omega) (wk_lt hI))
    (repeat (first | refine DO.nilF (fun i => i + 1 - nx) (by simp (disch := omega) only [go_sem, zld, zle, Option.map_none] <;> rfl) (by kernel_rfl) ?_ | (with_reducible refine oA ?_) | ((with_reducible apply DO.run); (focus (simp (disch := omega) only [go_sem, ↓reduceIte, zn1, reduceCtorEq, if_pos, g1, g2] <;> rfl)); (fail_if_success with_reducible refine pickA ?_))))
    show SO _ _ _ _ _ _ _
    refine SO.inlQ sG (by rfl) sG sG (SInlQ.part [(1, _), (0, _)] (fun i => 2 ≤ i) c5 not2 (wk_in (nx := 0) hge) ?_ ?_)
    ·rintro x hp' nx' ⟨rfl, rfl, rfl⟩
     exact ⟨.tu (fun _ h => by cases h), wk_only (nx := 0) hge', wk_in (nx := 0) hge'⟩
    rintro x hp' nx' ⟨rfl, rfl, rfl⟩
    (repeat (first | (with_reducible refine oA ?_) | ((with_reducible apply SC.region); (focus (simp (disch := omega) only [go_sem, ↓reduceIte, zn1, reduceCtorEq] <;> rfl)); (fail_if_success with_reducible refine pickA ?_))))
    refine hK2 _ (i + 1, _, swapN a u v, swapN b u v) ?_ ⟨by simp only; omega, hA', hI', hge', hF2⟩ (by simp only; omega)
    (refine Le.slots ?_ ?_ ?_ <;> (repeat' (first | (exact fun _ _ h => h) | exact znb _ | exact leSl_nil | refine leSl_cons sG ?_ ?_ | exact VLe.refl rfl)))
   ·have q3 : (((2 : Nat) : Int) == 1) = false := rfl
    have q4 : (((2 : Nat) : Int) == 2) = true := rfl
    have c5 := negate_q hW (by omega) hI hu hn hw
    (repeat (first | (with_reducible refine SC.condB sF ?_; first | with_reducible refine pickT ?_ | with_reducible refine pickF ?_) | (with_reducible refine oA ?_) | ((with_reducible apply SC.region); (focus (simp (disch := omega) only [go_sem, ↓reduceIte, zn1, reduceCtorEq, if_pos, q1, g1, g2, q3, q4]; rfl)))))
    refine SC.ops ?_
    repeat (refine SO.run (by simp (disch := omega) only [go_sem, ↓reduceIte, zn1, reduceCtorEq, if_pos, g1, g2]; rfl) ?_)
    refine SO.inlQ sG (by rfl) sG sG (SInlQ.part [(1, _), (0, _)] (fun i => 2 ≤ i) c5 not2 (wk_in (nx := 0) hge) ?_ ?_)
    ·rintro x hp' nx' ⟨rfl, rfl, rfl⟩
     exact ⟨.tu (fun _ h => by cases h), wk_only (nx := 0) hge, wk_in (nx := 0) hge⟩
    rintro x hp' nx' ⟨rfl, rfl, rfl⟩
    (repeat (first | (with_reducible refine oA ?_) | ((with_reducible apply SC.region); (focus (simp (disch := omega) only [go_sem, ↓reduceIte, zn1, reduceCtorEq] <;> rfl)); (fail_if_success with_reducible refine pickA ?_))))
    refine hK2 _ (i + 1, _, a, b) ?_ ⟨by simp only; omega, hA', hI, hge, hF2⟩ (by simp only; omega)
    (refine Le.slots ?_ ?_ ?_ <;> (repeat' (first | (exact fun _ _ h => h) | exact znb _ | exact leSl_nil | refine leSl_cons sG ?_ ?_ | exact VLe.refl rfl)))
   ·have q3 : (((3 : Nat) : Int) == 1) = false := rfl
    have q4 : (((3 : Nat) : Int) == 2) = false := rfl
    have c5 := addto_q hW hk (by omega) hI hu hv huv hn hw
    unfold iv sv at c5
    (repeat (first | (with_reducible refine SC.condB sF ?_; first | with_reducible refine pickT ?_ | with_reducible refine pickF ?_) | (with_reducible refine oA ?_) | ((with_reducible apply SC.region); (focus (simp (disch := omega) only [go_sem, ↓reduceIte, zn1, reduceCtorEq, if_pos, q1, g1, g2, q3, q4]; rfl)))))
    refine SC.drawT 16 (by simp only [zl3, zl4]; rfl) (by simp only [zl9, zl2]; rfl) Tab.mixed ?_ (by kernel_rfl) ?_
    ·exact klc (show 1 < nx by omega) (klc (show 0 < nx by omega) (wk_lt hI))
    (repeat (first | refine DO.nilF (fun i => i + 1 - nx) (by simp (disch := omega) only [go_sem, zld, zle, Option.map_none] <;> rfl) (by kernel_rfl) ?_ | (with_reducible refine oA ?_) | ((with_reducible apply DO.run); (focus (simp (disch := omega) only [go_sem, ↓reduceIte, zn1, zn3, reduceCtorEq, if_pos, g1, g2] <;> rfl)); (fail_if_success with_reducible refine pickA ?_))))
    show SO _ _ _ _ _ _ _
    refine SO.inlQ sG (by rfl) sG sG (SInlQ.part [(1, _), (0, _)] (fun i => 2 ≤ i) c5 not2 (wk_in (nx := 0) hge) ?_ ?_)
    ·rintro x hp' nx' ⟨rfl, rfl, rfl⟩
     exact ⟨.tu (fun _ h => by cases h), wk_only (nx := 0) hge, wk_in (nx := 0) hge⟩
    rintro x hp' nx' ⟨rfl, rfl, rfl⟩
    (repeat (first | (with_reducible refine oA ?_) | ((with_reducible apply SC.region); (focus (simp (disch := omega) only [go_sem, ↓reduceIte, zn1, reduceCtorEq] <;> rfl)); (fail_if_success with_reducible refine pickA ?_))))
    refine hK2 _ (i + 1, _, a, b) ?_ ⟨by simp only; omega, hA', hI, hge, hF2⟩ (by simp only; omega)
    (refine Le.slots ?_ ?_ ?_ <;> (repeat' (first | (exact fun _ _ h => h) | exact znb _ | exact leSl_nil | refine leSl_cons sG ?_ ?_ | exact VLe.refl rfl)))
  ·have q1 := decide_eq_false (p := (i : Int) < (l.length : Int)) (by omega)
   have hil : i = l.length := by omega
   have hAF : W = FF := by rw [← hF2, hil, List.drop_length]; rfl
   subst hAF
   obtain ⟨z1, z2, z3, z4, z5, z6⟩ := hI.nes
   have la := hI.la
   have hFr := rI_rows hFM
   have x1 := hge p (by simp)
   have x2 := hge oM (by simp)
   have hWl := hW.len
   have hrow : ∀ C D : List V, ∀ k, k < a.length → hget ((1, (⟨28, C, false⟩ : Blk)) :: (0, ⟨28, D, false⟩) :: wkH p oM oU oV h w a b c0 W) (a.getD k 0) = some ⟨43, (rI F).getD k [], false⟩ := by
    intro C D k hk
    obtain ⟨gR, y1, y2, y3, y4, y5⟩ := hI.row hWl (q := k) (by omega)
    have x3 := hge (a.getD k 0) (by simp only [List.mem_cons, List.mem_append]; exact .inr (.inr (.inr (.inr (.inl (.inl (getD_mem' hk)))))))
    rw [hI.iM (by omega)] at gR y1 y2 y3 y4 y5
    unfold wkH
    simp only [hget]
    rw [if_neg (by omega), if_neg (by omega), if_neg y2, if_neg y3, if_neg y4, if_neg y5, gR, rI_getD, ← eF, take_get (by omega)]
   have g1 := slR_len 2 w a
   rw [la] at g1
   rw [hFl]
   clear hK2 hF2 c1 c2
   by_cases h0 : h = 0
   ·subst h0
    have ha : a = [] := List.eq_nil_of_length_eq_zero (by omega)
    have hFe : F = [] := List.eq_nil_of_length_eq_zero (by omega)
    subst ha; subst hFe
    unfold wkH workC at *
    (repeat (first | (with_reducible refine SC.condB sF ?_; with_reducible refine pickF ?_) | (with_reducible refine oA ?_) | ((with_reducible apply SC.region); (focus (simp (disch := omega) only [go_sem, ↓reduceIte, zn1, zn2, zn3, zn4, reduceCtorEq, if_neg, q1]; rfl)))))
    exact retQ_ret Try.results8 sG (by simp (disch := omega) only [go_sem, ↓reduceIte, if_pos, if_neg, z1] <;> rfl) rfl
   ·have hsl := slR_some (z := 2) (m := w) (ids := a) (by omega)
    have hfz := fun C D : List V => frz_rowsA (n := 4) (z := 2) (m := w) (ty := 43) (ids := a) (rs := rI F) (by omega) (by rw [rI_len]; omega) (hrow C D) hFr
    have ht : (slR 2 w a).take h = slR 2 w a := zla (by omega)
    unfold wkH workC at *
    (repeat (first | (with_reducible refine SC.condB sF ?_; with_reducible refine pickF ?_) | (with_reducible refine oA ?_) | ((with_reducible apply SC.region); (focus (simp (disch := omega) only [go_sem, ↓reduceIte, zn1, zn2, zn3, zn4, reduceCtorEq, if_neg, q1]; rfl)))))
    exact retQ_ret Try.results8 sG (by simp (disch := omega) only [go_sem, ↓reduceIte, if_pos, if_neg, hfz, hsl, ht, g1, z1] <;> rfl) rfl
theorem WIds.cell {p oM oU oV h w nx : Nat} {a b c : List Nat} {W : List (List Int)} (hI : WIds p oM oU oV a b c h nx) (hW : WS h w W) {i t : Nat} (hi : i < h) (ht : t < w) :
  (slR 2 w a)[i]? = some (.sl (a.getD i 0) 0 w 2 none) ∧ hget (rowsH 43 (a ++ b ++ c) (rI W)) (a.getD i 0) = some ⟨43, ivR (W.getD i []), false⟩ ∧ a.getD i 0 < nx ∧ (a.getD i 0 = p) = False ∧ (a.getD i 0 = oM) = False ∧ (a.getD i 0 = oU) = False ∧ (a.getD i 0 = oV) = False ∧ (ivR (W.getD i [])).drop (t * 2) = ivC (ent2 W i t) ++ (ivR (W.getD i [])).drop ((t + 1) * 2) ∧ t * 2 < (ivR (W.getD i [])).length ∧ (ivR (W.getD i [])).length = 2 * w := by
 have hl := hW.len
 have hr := hW.rowM i hi
 have la := hI.la
 obtain ⟨gR, y1, y2, y3, y4, y5⟩ := hI.rowF hl (q := i) (by omega)
 rw [hI.iM hi] at gR y1 y2 y3 y4 y5
 have gl := ivR_len (W.getD i [])
 rw [hr] at gl
 exact ⟨slR_get (by omega), gR, y1, y2, y3, y4, y5, ivR_drop (by omega), by omega, gl⟩
theorem WIds.up {p oM oU oV h nx m : Nat} {a b c : List Nat} (hI : WIds p oM oU oV a b c h nx) (hm : nx ≤ m) : WIds p oM oU oV a b c h m := ⟨hI.la, hI.lb, hI.lc, hI.nod, fun i hi => by have := hI.rng i hi; omega⟩
def HZ : List V := [.sc (.int .i64 0), .sc (.int .i64 0), .sc (.slice none 0 0), .sc (.int .i64 0), .sc (.int .i64 0), .sc (.slice none 0 0), .sc (.int .i64 0), .sc (.int .i64 0), .sc (.slice none 0 0)]
def hermC (h w : Nat) (W : List (List Int)) : List V := [.sc (.int .i64 h), .sc (.int .i64 w), .im (imR w (rI (W.take h))) h, .sc (.int .i64 h), .sc (.int .i64 h), .im (imR h (rI ((W.drop h).take h))) h, .sc (.int .i64 h), .sc (.int .i64 h), .im (imR h (rI (W.drop (2 * h)))) h]
theorem ColsE.split {h w t tp : Nat} {W W' : List (List Int)} (hE : ColsE h w t tp W W') (ht : t < w) (htp : tp < h) : ∃ W1, RowsE h t tp (tp + 1) W W1 ∧ ((ent2 W1 tp t = 0 ∧ ColsE h w (t + 1) tp W1 W') ∨ (ent2 W1 tp t ≠ 0 ∧ ColsE h w (t + 1) (tp + 1) (redW h t tp tp 0 (if ent2 W1 tp t < 0 then negW h tp W1 else W1)) W')) := by
 cases hE with
 | done h0 => exact absurd ⟨ht, htp⟩ h0
 | skip _ _ hR h0 hE => exact ⟨_, hR, .inl ⟨h0, hE⟩⟩
 | piv _ _ hR h0 hE => exact ⟨_, hR, .inr ⟨h0, hE⟩⟩
theorem RowsE.split {h t tp i : Nat} {W W' : List (List Int)} (hE : RowsE h t tp i W W') (hi : i < h) : ∃ W1, Euc h t tp i W W1 ∧ RowsE h t tp (i + 1) W1 W' := by
 cases hE with
 | done h0 => omega
 | next _ h1 h2 => exact ⟨_, h1, h2⟩
theorem RowsE.fin {h t tp i : Nat} {W W' : List (List Int)} (hE : RowsE h t tp i W W') (hi : h ≤ i) : W' = W := by
 cases hE with
 | done h0 => rfl
 | next h0 _ _ => omega
theorem Euc.fin {h t tp i : Nat} {W W' : List (List Int)} (hE : Euc h t tp i W W') (h0 : ent2 W i t = 0) : W' = W := by
 cases hE with
 | stop _ => rfl
 | step h1 _ => exact absurd h0 h1
theorem Euc.go {h t tp i : Nat} {W W' : List (List Int)} (hE : Euc h t tp i W W') (h0 : ent2 W i t ≠ 0) : Euc h t tp i (stepE h t tp i W) W' := by
 cases hE with
 | stop h1 => exact absurd h1 h0
 | step _ h2 => exact h2
theorem not4 {n m : Nat} (hm : n ≤ m) {b0 b1 b2 b3 : Blk} : ∀ id k, hget [(m + 1, b3), (m, b2), (1, b1), (0, b0)] id = some k → ¬ (2 ≤ id ∧ id < n) := by
 intro id k hk
 simp only [hget] at hk
 split at hk
 ·omega
 split at hk
 ·omega
 split at hk
 ·omega
 split at hk
 ·omega
 ·cases hk
theorem not2' {n : Nat} {b0 b1 : Blk} : ∀ id k, hget [(1, b1), (0, b0)] id = some k → ¬ (2 ≤ id ∧ id < n) := fun id k hk h => not2 id k hk h.1
theorem floor_i (x y : Int) (K : Nat) (hx : Fits K x) (hy : Fits K y) (hK : K ≤ 100000000000) (h0 : y ≠ 0) : Spec Try.prog 37 [iv x, iv y] (iv (x / y)) := by
 have c1 := divmod_i x y K hx hy (by omega) h0
 unfold iv sv at *
 refine Spec.run Try.func37 rfl Try.ntmps37 (by simp) sF fun B hB => ?_
 (repeat (first | (with_reducible refine oA ?_) | ((apply SO.call); (iterate 3 (focus (simp (disch := omega) only [go_sem, ↓reduceIte, zn1] <;> rfl))); (apply SCall.ofX); (focus (assumption)); (focus (simp (disch := omega) only [go_sem] <;> rfl))) | ((with_reducible first | apply SC.region | apply SO.run); (focus (simp (disch := omega) only [go_sem, ↓reduceIte, zn1, zn2, zn3, zn4, reduceCtorEq] <;> rfl)); (fail_if_success with_reducible refine pickA ?_)) | (with_reducible apply SC.ops)))
 exact retQ_ret Try.results37 sG sG rfl
theorem fits_quo {K : Nat} {x y : Int} (h : Fits K x) : Fits K (x / y) := by
 unfold Fits at *
 exact Nat.lt_of_le_of_lt (Int.natAbs_ediv_le_natAbs x y) h
theorem getD_drop2 {W : List (List Int)} {n k : Nat} : (W.drop n).getD k [] = W.getD (n + k) [] := by
 rw [List.getD_eq_getElem?_getD, zl5, List.getD_eq_getElem?_getD]
theorem work_part {h w K n : Nat} {W : List (List Int)} (hW : WI h w K W) (hn : n = h ∨ n = 2 * h) : MI h h K ((W.drop n).take h) := by
 have hl := hW.len
 have htl : ((W.drop n).take h).length = h := by rw [List.length_take, List.length_drop]; omega
 refine ⟨htl, fun r hr => ?_⟩
 obtain ⟨q, hq, rfl⟩ := List.mem_iff_getElem.1 hr
 have e : ((W.drop n).take h)[q] = W.getD (n + q) [] := by
  rw [← getD_drop2, ← take_get (M := W.drop n) (h := h) (by omega), List.getD_eq_getElem?_getD, zlb hq]; rfl
 rw [e]
 refine ⟨hW.rowU _ (by omega) (by omega), fun x hx => ?_⟩
 obtain ⟨t, ht, rfl⟩ := List.mem_iff_getElem.1 hx
 have := hW.fit (n + q) t
 rwa [List.getD_eq_getElem?_getD, zlb ht] at this
theorem work_u {h w K : Nat} {W : List (List Int)} (hW : WI h w K W) : MI h h K ((W.drop h).take h) := work_part hW (.inl rfl)
theorem work_v {h w K : Nat} {W : List (List Int)} (hW : WI h w K W) : MI h h K (W.drop (2 * h)) := by
 have := work_part hW (n := 2 * h) (.inr rfl)
 have hl := hW.len
 rwa [zla (by rw [List.length_drop]; omega)] at this
theorem swapIds {p oM oU oV h nx i j n1 : Nat} {a b c : List Nat} (hI : WIds p oM oU oV a b c h nx) (hi : i < h) (hj : j < h) (hge : ∀ x ∈ p :: oM :: oU :: oV :: (a ++ b ++ c), 2 ≤ x ∧ x < n1) : ∀ x ∈ p :: oM :: oU :: oV :: (swapN a i j ++ swapN b i j ++ c), 2 ≤ x ∧ x < n1 := by
 intro x hx
 simp only [List.mem_cons] at hx
 rcases hx with rfl | rfl | rfl | rfl | hx
 ·exact hge _ (by simp)
 ·exact hge _ (by simp)
 ·exact hge _ (by simp)
 ·exact hge _ (by simp)
 ·exact hge _ (by simp only [List.mem_cons]; exact .inr (.inr (.inr (.inr (swapSub hI hi hj x hx)))))
theorem hget_old {m : Nat} {b2 b3 : Blk} {l : List (Nat × Blk)} (hl : ∀ id k, hget l id = some k → id < m) : ∀ id k, hget l id = some k → hget ((m + 1, b3) :: (m, b2) :: l) id = some k := by
 intro id k h
 have := hl id k h
 simp only [hget]
 rw [if_neg (by omega), if_neg (by omega)]
 exact h
theorem hget_two {m : Nat} {b0 b1 : Blk} {l : List (Nat × Blk)} (hm : 1 < m) (hl : ∀ id k, hget l id = some k → id < m) : ∀ id k, hget ((1, b1) :: (0, b0) :: l) id = some k → id < m := by
 intro id k h
 simp only [hget] at h
 split at h
 ·omega
 split at h
 ·omega
 ·exact hl id k h
set_option maxHeartbeats 64000000 in
set_option maxRecDepth 8000 in
theorem rform_s {h w K G : Nat} {A W' : List (List Int)} (hA : MI h w K A) (hG : (K + 1) * fact (h + 1) ≤ G) (hGl : G ≤ 20000000000) (hn : h ≤ 1000000) (hw : w ≤ 1000000) (hE : ColsE h w 0 0 (A ++ idL h ++ idL h) W') :
  Spec Try.prog 11 [mat w A] (.ag (hermC h w W')) := by
 have hml := hA.len
 have hKG := fact_le hG
 have c2 := hstart_q 2 hA (by omega) hn hw
 have hI0 := form_start hA
 have hI0 : ∃ pv, ColI h w 0 0 G pv A (A ++ idL h ++ idL h) := ⟨_, hI0.ws, hI0.hs, hI0.lin, by obtain ⟨K2, h1, h2⟩ := hI0.bd; exact ⟨K2, h1, Nat.le_trans h2 hG⟩⟩
 generalize A ++ idL h ++ idL h = W0 at *
 unfold mat at *
 rw [hml] at c2 ⊢
 refine Spec.run Try.func11 rfl Try.ntmps11 (by simp) sF fun B hB => ?_
 (repeat (first | (with_reducible refine oA ?_) | ((with_reducible first | apply SC.region | apply SO.run); (focus (simp (disch := omega) only [go_sem, ↓reduceIte, zn1, zn3, zn4, reduceCtorEq] <;> rfl)); (fail_if_success with_reducible refine pickA ?_)) | (with_reducible apply SC.ops)))
 refine SO.inlQ sG Tab.go29 sG sG (SInlQ.newR c2 ?_ ?_ ?_)
 ·exact klc (by omega) (klc (by omega) kln)
 ·exact fun x hp' nx' h => workQ_new h
 rintro x hp' n1 ⟨p, oM, oU, oV, a0, b0, c0, hWk, rfl, rfl⟩
 clear c2
 (repeat (first | (with_reducible refine oA ?_) | ((with_reducible first | apply SC.region | apply SO.run); (focus (simp (disch := omega) only [go_sem, ↓reduceIte] <;> rfl)); (fail_if_success with_reducible refine pickA ?_))))
 refine SC.meet (fun z : Nat × Nat × List (List Int) × List Nat × List Nat × Nat => ⟨[(2, .pt 1 0), (3, .pt p 0)], (1, ⟨38, HZ, false⟩) :: (0, ⟨28, [.sc (.int .i64 h), .sc (.int .i64 w), .im (imR w (rI A)) h], false⟩) :: wkH p oM oU oV h w z.2.2.2.1 z.2.2.2.2.1 c0 W', z.2.2.2.2.2, 173⟩) (fun z => WS h w W' ∧ WI h w G W' ∧ WIds p oM oU oV z.2.2.2.1 z.2.2.2.2.1 c0 h n1 ∧ (∀ y ∈ p :: oM :: oU :: oV :: (z.2.2.2.1 ++ z.2.2.2.2.1 ++ c0), 2 ≤ y ∧ y < n1) ∧ n1 ≤ z.2.2.2.2.2) ?_ ?_
 intro K0 hK0
 refine SC.loop (fun x : Nat × Nat × List (List Int) × List Nat × List Nat × Nat => ⟨[(1, .pt 0 0), (2, .pt 1 0), (3, .pt p 0), (4, .sc (.int .i64 x.2.1)), (5, .sc (.int .i64 x.1))], (1, ⟨38, HZ, false⟩) :: (0, ⟨28, [.sc (.int .i64 h), .sc (.int .i64 w), .im (imR w (rI A)) h], false⟩) :: wkH p oM oU oV h w x.2.2.2.1 x.2.2.2.2.1 c0 x.2.2.1, x.2.2.2.2.2, 173⟩)
  (fun x => (∃ pv, ColI h w x.1 x.2.1 G pv A x.2.2.1) ∧ ColsE h w x.1 x.2.1 x.2.2.1 W' ∧ WIds p oM oU oV x.2.2.2.1 x.2.2.2.2.1 c0 h n1 ∧ (∀ y ∈ p :: oM :: oU :: oV :: (x.2.2.2.1 ++ x.2.2.2.2.1 ++ c0), 2 ≤ y ∧ y < n1) ∧ n1 ≤ x.2.2.2.2.2) (fun x => w - x.1) (0, 0, W0, a0, b0, n1) ?_ ?_ ?_
 ·(refine Le.slots ?_ ?_ ?_ <;> (repeat' (first | (exact fun _ _ h => h) | exact znb _ | exact leSl_nil | refine leSl_cons sG ?_ ?_ | exact VLe.refl rfl)))
 ·exact ⟨hI0, hE, ⟨hWk.la, hWk.lb, hWk.lc, hWk.nod, fun i hi => (hWk.rng i hi).2⟩, hWk.rng, znb _⟩
 ·rintro ⟨t, tp, W, a, b, nx⟩ ⟨⟨pv, hCI⟩, hCE, hI, hge, hnx⟩ K1 hK1
  simp only at hCI hCE hI hge hnx ⊢
  clear hI0 hWk hE hG
  by_cases hc : t < w
  ·have q1 := decide_eq_true (p := (t : Int) < (w : Int)) (by omega)
   by_cases htp : tp < h
   ·have q2 := decide_eq_true (p := (tp : Int) < (h : Int)) (by omega)
    obtain ⟨W1, hRE, hrest⟩ := hCE.split hc htp
    obtain ⟨Kc, hGb, hKc⟩ := hCI.bd
    have hR0 := hCI.row0 hGb
    have hRW := hRE.row (pow_ge1 Kc) (by omega) (by omega) hR0
    have hWI1 := hRW.wi (znb _) htp hKc
    (repeat (first | (with_reducible refine oA ?_) | ((with_reducible first | apply SC.condB | apply SC.region); (focus (simp (disch := omega) only [go_sem, ↓reduceIte, zn1, reduceCtorEq, q1, q2] <;> rfl)); (first | refine pickT ?_ | fail_if_success with_reducible refine pickA ?_))))
    refine SC.meet (fun z : List Nat × List Nat × Nat => ⟨[(1, .pt 0 0), (2, .pt 1 0), (3, .pt p 0), (4, .sc (.int .i64 tp)), (5, .sc (.int .i64 t))], (1, ⟨38, HZ, false⟩) :: (0, ⟨28, [.sc (.int .i64 h), .sc (.int .i64 w), .im (imR w (rI A)) h], false⟩) :: wkH p oM oU oV h w z.1 z.2.1 c0 W1, z.2.2, 173⟩) (fun z => WIds p oM oU oV z.1 z.2.1 c0 h n1 ∧ (∀ y ∈ p :: oM :: oU :: oV :: (z.1 ++ z.2.1 ++ c0), 2 ≤ y ∧ y < n1) ∧ n1 ≤ z.2.2) ?_ ?_
    ·as_aux_lemma =>
      intro K2 hK2
      refine SC.loop (fun x : Nat × List (List Int) × List Nat × List Nat × Nat => ⟨[(1, .pt 0 0), (2, .pt 1 0), (3, .pt p 0), (4, .sc (.int .i64 tp)), (5, .sc (.int .i64 t)), (6, .sc (.int .i64 x.1))], (1, ⟨38, HZ, false⟩) :: (0, ⟨28, [.sc (.int .i64 h), .sc (.int .i64 w), .im (imR w (rI A)) h], false⟩) :: wkH p oM oU oV h w x.2.2.1 x.2.2.2.1 c0 x.2.1, x.2.2.2.2, 173⟩)
       (fun x => tp < x.1 ∧ x.1 ≤ h ∧ RowI h w t tp (4294967296 ^ Kc) (4294967296 ^ Kc) (4294967296 ^ Kc) x.1 x.2.1 ∧ RowsE h t tp x.1 x.2.1 W1 ∧ WIds p oM oU oV x.2.2.1 x.2.2.2.1 c0 h n1 ∧ (∀ y ∈ p :: oM :: oU :: oV :: (x.2.2.1 ++ x.2.2.2.1 ++ c0), 2 ≤ y ∧ y < n1) ∧ n1 ≤ x.2.2.2.2) (fun x => h - x.1) (tp + 1, W, a, b, nx) ?_ ?_ ?_
      ·(refine Le.slots ?_ ?_ ?_ <;> (repeat' (first | (exact fun _ _ h => h) | exact znb _ | exact leSl_nil | refine leSl_cons sG ?_ ?_ | exact VLe.refl rfl)))
      ·exact ⟨by simp only; omega, by simp only; omega, hR0, hRE, hI, hge, hnx⟩
      ·clear hRE hR0 hI hge hnx hK1 hrest hCE hCI hGb hRW hWI1
       rintro ⟨i, W, a, b, nx⟩ ⟨hti, hih, hR, hRE, hI, hge, hnx⟩ K3 hK3
       simp only at hti hih hR hRE hI hge hnx ⊢
       by_cases hi : i < h
       ·have q3 := decide_eq_true (p := (i : Int) < (h : Int)) (by omega)
        obtain ⟨W2, hEu, hRE2⟩ := hRE.split hi
        have hP0 := hR.pair hti (pow_ge1 Kc)
        have hR2 := PairI.row hR hEu hti hi (pow_ge1 Kc)
        (repeat (first | (with_reducible refine oA ?_) | ((with_reducible first | apply SC.condB | apply SC.region); (focus (simp (disch := omega) only [go_sem, ↓reduceIte, zn1, reduceCtorEq, q3] <;> rfl)); (first | refine pickT ?_ | fail_if_success with_reducible refine pickA ?_))))
        refine SC.loop (fun x : List (List Int) × List Nat × List Nat × Nat => ⟨[(1, .pt 0 0), (2, .pt 1 0), (3, .pt p 0), (4, .sc (.int .i64 tp)), (5, .sc (.int .i64 t)), (6, .sc (.int .i64 i))], (1, ⟨38, HZ, false⟩) :: (0, ⟨28, [.sc (.int .i64 h), .sc (.int .i64 w), .im (imR w (rI A)) h], false⟩) :: wkH p oM oU oV h w x.2.1 x.2.2.1 c0 x.1, x.2.2.2, 173⟩)
         (fun x => PairI h w t tp i (4294967296 ^ Kc) (4294967296 ^ Kc) (4294967296 ^ Kc * (12 * 4294967296 ^ Kc) ^ (i - (tp + 1))) (4294967296 ^ Kc * (12 * 4294967296 ^ Kc) ^ (i + 1 - (tp + 1))) x.1 ∧ Euc h t tp i x.1 W2 ∧ WIds p oM oU oV x.2.1 x.2.2.1 c0 h n1 ∧ (∀ y ∈ p :: oM :: oU :: oV :: (x.2.1 ++ x.2.2.1 ++ c0), 2 ≤ y ∧ y < n1) ∧ n1 ≤ x.2.2.2) (fun x => (ent2 x.1 i t).natAbs) (W, a, b, nx) ?_ ?_ ?_
        ·(refine Le.slots ?_ ?_ ?_ <;> (repeat' (first | (exact fun _ _ h => h) | exact znb _ | exact leSl_nil | refine leSl_cons sG ?_ ?_ | exact VLe.refl rfl)))
        ·exact ⟨hP0, hEu, hI, hge, hnx⟩
        ·clear hRE hR hP0 hI hge hnx hEu
         rintro ⟨W, a, b, nx⟩ ⟨hP, hEu, hI, hge, hnx⟩ K4 hK4
         simp only at hP hEu hI hge hnx ⊢
         have hWS := hP.ws
         have hWI := hP.wi hi htp hKc
         have hy := hWI.fit i t
         have hx := hWI.fit tp t
         have hIn := hI.up hnx
         obtain ⟨l1, l2, l3, l4⟩ := hI.lts
         obtain ⟨z1, z2, z3, z4, z5, z6⟩ := hI.nes
         have x1 := hge p (by simp)
         have x2 := hge oM (by simp)
         have x3 := hge oU (by simp)
         have x4 := hge oV (by simp)
         have ga := slR_len 2 w a
         rw [hI.la] at ga
         obtain ⟨gii, gRi, y1i, y2i, y3i, y4i, y5i, gdi, g2i, gli⟩ := hI.cell hWS (i := i) (t := t) (by omega) hc
         obtain ⟨git, gRt, y1t, y2t, y3t, y4t, y5t, gdt, g2t, glt⟩ := hI.cell hWS (i := tp) (t := t) (by omega) hc
         have x5 := hge (a.getD i 0) (by simp only [List.mem_cons, List.mem_append]; exact .inr (.inr (.inr (.inr (.inl (.inl (getD_mem' (by rw [hI.la]; exact hi))))))))
         have x6 := hge (a.getD tp 0) (by simp only [List.mem_cons, List.mem_append]; exact .inr (.inr (.inr (.inr (.inl (.inl (getD_mem' (by rw [hI.la]; exact htp))))))))
         have c1 := sign_i (ent2 W i t) G hy (by omega)
         by_cases h0 : ent2 W i t = 0
         ·have hW2 := hEu.fin h0
          subst hW2
          have q4 : ((ent2 W2 i t).sign != 0) = false := by rw [h0]; rfl
          unfold ent2 at c1 q4
          unfold ent2 at gdi
          unfold iv sv at c1
          unfold ivC sv at gdi
          simp only [zl8, zl7] at gdi
          unfold wkH workC
          (repeat (first | (with_reducible refine oA ?_) | ((apply SO.call); (iterate 3 (focus (simp (disch := omega) only [go_sem, ↓reduceIte] <;> rfl))); (apply SCall.ofX); (focus (assumption)); (focus (simp (disch := omega) only [go_sem] <;> rfl))) | ((with_reducible first | apply SC.condB | apply SC.region | apply SO.run); (focus (simp (disch := omega) only [go_sem, ↓reduceIte, zn1, reduceCtorEq, if_pos, if_neg, q4, gii, gRi, gdi, gli, y2i, y3i, y4i, y5i, z1] <;> rfl)); (first | refine pickF ?_ | fail_if_success with_reducible refine pickA ?_)) | (with_reducible apply SC.ops)))
          refine hK3 _ (i + 1, W2, a, b, nx) ?_ ⟨by simp only; omega, by simp only; omega, hR2, hRE2, hI, hge, hnx⟩ (by simp only; omega)
          unfold wkH workC
          (refine Le.slots ?_ ?_ ?_ <;> (repeat' (first | (exact fun _ _ h => h) | exact znb _ | exact leSl_nil | refine leSl_cons sG ?_ ?_ | exact VLe.refl rfl)))
         ·obtain ⟨hP2, hlt⟩ := hP.step hti hi h0
          have hEu2 := hEu.go h0
          have q4 : ((ent2 W i t).sign != 0) = true := by rw [bne_iff_ne]; intro e; exact h0 (Int.sign_eq_zero_iff_zero.1 e)
          have c2 := sign_i (ent2 W tp t) G hx (by omega)
          have hge' := swapIds hI htp hi hge
          have hI' := hI.swap htp hi
          by_cases hx0 : ent2 W tp t = 0
          ·have q5 : ((ent2 W tp t).sign != 0) = false := by rw [hx0]; rfl
           have eW : stepE h t tp i W = swapW h tp i W := by unfold stepE; rw [if_pos hx0]
           rw [eW] at hP2 hEu2 hlt
           have c6 := swap_q hWI hIn htp hi hn hw
           unfold ent2 at c1 c2 q4 q5
           unfold ent2 at gdi gdt
           unfold iv sv at c1 c2
           unfold ivC sv at gdi gdt
           simp only [zl8, zl7] at gdi gdt
           unfold wkH workC
           (repeat (first | (with_reducible refine oA ?_) | ((apply SO.call); (iterate 3 (focus (simp (disch := omega) only [go_sem, ↓reduceIte, zn1, if_pos, if_neg, ga, z1] <;> rfl))); (apply SCall.ofX); (focus (assumption)); (focus (simp (disch := omega) only [go_sem] <;> rfl))) | ((with_reducible first | apply SC.condB | apply SC.region | apply SO.run); (focus (simp (disch := omega) only [go_sem, ↓reduceIte, zn1, reduceCtorEq, if_pos, if_neg, q4, q5, gii, gRi, gdi, gli, y2i, y3i, y4i, y5i, git, gRt, gdt, glt, y2t, y3t, y4t, y5t, z1] <;> rfl)); (first | refine pT ?_ | refine pF ?_ | fail_if_success with_reducible refine pA ?_)) | (with_reducible apply SC.ops)))
           refine SO.inlQ sG Tab.go30 sG sG (SInlQ.part [(1, _), (0, _)] (fun i => 2 ≤ i ∧ i < n1) c6 not2' (wk_in (nx := 0) hge) ?_ ?_)
           ·rintro x hp' nx' ⟨rfl, rfl, rfl⟩
            exact ⟨.tu (fun _ h => by cases h), wk_only (nx := 0) hge', wk_in (nx := 0) hge'⟩
           rintro x hp' nx' ⟨rfl, rfl, rfl⟩
           (repeat ((with_reducible refine oA ?_)))
           refine hK4 _ (swapW h tp i W, swapN a tp i, swapN b tp i, nx') ?_ ⟨hP2, hEu2, hI', hge', hnx⟩ hlt
           (refine Le.slots ?_ ?_ ?_ <;> (repeat' (first | (exact fun _ _ h => h) | exact znb _ | exact leSl_nil | refine leSl_cons sG ?_ ?_ | exact VLe.refl rfl)))
          ·have q5 : ((ent2 W tp t).sign != 0) = true := by rw [bne_iff_ne]; intro e; exact hx0 (Int.sign_eq_zero_iff_zero.1 e)
           have eW : stepE h t tp i W = swapW h tp i (addW h tp i (-(ent2 W tp t / ent2 W i t)) W) := by unfold stepE; rw [if_neg hx0]
           rw [eW] at hP2 hEu2 hlt
           have c3 := divmod_i (ent2 W tp t) (ent2 W i t) G hx hy (by omega) h0
           have hq : Fits G (ent2 W tp t / ent2 W i t) := fits_quo hx
           have c4 := neg_i (ent2 W tp t / ent2 W i t) G hq (by omega)
           have hIn2 := hI.up (show n1 ≤ nx + 2 by omega)
           have hWIa := addW_wi hWI htp hi (fits_neg hq)
           have c5 := addto_q hWI (fits_neg hq) (by omega) hIn2 htp hi (by omega) hn hw
           have c6 := swap_q hWIa hIn2 htp hi hn hw
           have hkl := hI.kl (W := W) (m := nx) hnx
           unfold iv sv at c5
           generalize hk : -(ent2 W tp t / ent2 W i t) = k at *
           generalize hq0 : ent2 W tp t / ent2 W i t = q at *
           generalize hr0 : ent2 W tp t % ent2 W i t = r at *
           unfold ent2 at c1 c2 c3 q4 q5
           unfold ent2 at gdi gdt
           unfold iv sv at c1 c2 c3 c4
           unfold ivC sv at gdi gdt
           simp only [zl8, zl7] at gdi gdt
           unfold wkH workC
           (repeat (first | refine DO.nilF (fun i => i + 1 - nx) (by simp (disch := omega) only [go_sem, zn4, zld, zle, Option.map_some, Option.map_none, znd, zne, znf, zn4] <;> rfl) (by kernel_rfl) ?_ | (with_reducible refine oA ?_) | ((first | apply SO.call | apply DO.call); (iterate 3 (focus (simp (disch := omega) only [go_sem, ↓reduceIte, zn1, if_pos, if_neg, ga, z1] <;> rfl))); (first | apply SCall.ofX | apply DCall.ofX); (focus (assumption)); (focus (simp (disch := omega) only [go_sem] <;> rfl))) | ((with_reducible first | apply wa | apply wb | apply wc | apply wd); (focus (simp (disch := omega) only [go_sem, ↓reduceIte, zn1, zn3, zn4, reduceCtorEq, if_pos, if_neg, q4, q5, gii, gRi, gdi, gli, y2i, y3i, y4i, y5i, git, gRt, gdt, glt, y2t, y3t, y4t, y5t, z1] <;> rfl)); (first | refine pickT ?_ | fail_if_success with_reducible refine pickA ?_)) | ((with_reducible refine SC.draw Tab.mixed ?_ ?_); (focus (simp (disch := omega) only [go_sem, if_pos, hkl]))) | (with_reducible apply SC.ops)))
           refine SO.inlQ sG Tab.go32 sG sG (SInlQ.part [(nx + 1, _), (nx, _), (1, _), (0, _)] (fun i => 2 ≤ i ∧ i < n1) c5 (not4 hnx) (wk_in (nx := 0) hge) ?_ ?_)
           ·rintro x hp' nx' ⟨rfl, rfl, rfl⟩
            exact ⟨.tu (fun _ h => by cases h), wk_only (nx := 0) hge, wk_in (nx := 0) hge⟩
           rintro x hp' nx' ⟨rfl, rfl, rfl⟩
           (repeat (first | (with_reducible refine oA ?_) | ((with_reducible first | apply SC.region | apply SO.run); (focus (simp (disch := omega) only [go_sem, ↓reduceIte, zn1] <;> rfl)); (fail_if_success with_reducible refine pickA ?_)) | (with_reducible apply SC.ops)))
           refine SO.inlQ sG Tab.go30 sG sG (SInlQ.part [(nx + 1, _), (nx, _), (1, _), (0, _)] (fun i => 2 ≤ i ∧ i < n1) c6 (not4 hnx) (wk_in (nx := 0) hge) ?_ ?_)
           ·rintro x hp' nx' ⟨rfl, rfl, rfl⟩
            exact ⟨.tu (fun _ h => by cases h), wk_only (nx := 0) hge', wk_in (nx := 0) hge'⟩
           rintro x hp' nx' ⟨rfl, rfl, rfl⟩
           (repeat ((with_reducible refine oA ?_)))
           refine hK4 _ (swapW h tp i (addW h tp i k W), swapN a tp i, swapN b tp i, nx + 2) ?_ ⟨hP2, hEu2, hI', hge', by simp only; omega⟩ hlt
           refine Le.slots ?_ (hget_old (b2 := ⟨43, _, false⟩) (b3 := ⟨43, _, false⟩) (hget_two (show 1 < nx by omega) fun id k hk => Nat.lt_of_lt_of_le (wk_lt hI' id k hk) hnx)) (znb _)
           repeat' (first | exact leSl_nil | refine leSl_cons sG ?_ ?_ | exact VLe.refl rfl)
       ·have q3 := decide_eq_false (p := (i : Int) < (h : Int)) (by omega)
        have hW2 := hRE.fin (by omega)
        subst hW2
        (repeat (first | (with_reducible refine oA ?_) | ((with_reducible first | apply SC.condB | apply SC.region); (focus (simp (disch := omega) only [go_sem, ↓reduceIte, zn1, reduceCtorEq, q3] <;> rfl)); (first | refine pickF ?_ | fail_if_success with_reducible refine pickA ?_))))
        refine hK2 _ (a, b, nx) ?_ ⟨hI, hge, hnx⟩
        (refine Le.slots ?_ ?_ ?_ <;> (repeat' (first | (exact fun _ _ h => h) | exact znb _ | exact leSl_nil | refine leSl_cons sG ?_ ?_ | exact VLe.refl rfl)))
    have hRE0 := hRE
    clear hRE hR0 hI hge hnx
    rintro ⟨a, b, nx⟩ ⟨hI, hge, hnx⟩
    simp only at hI hge hnx ⊢
    have hWS := hRW.ws
    have hIn := hI.up hnx
    obtain ⟨l1, l2, l3, l4⟩ := hI.lts
    obtain ⟨z1, z2, z3, z4, z5, z6⟩ := hI.nes
    have x1 := hge p (by simp)
    have x2 := hge oM (by simp)
    have x3 := hge oU (by simp)
    have x4 := hge oV (by simp)
    have ga := slR_len 2 w a
    rw [hI.la] at ga
    obtain ⟨git, gRt, y1t, y2t, y3t, y4t, y5t, gdt, g2t, glt⟩ := hI.cell hWS (i := tp) (t := t) (by omega) hc
    have x6 := hge (a.getD tp 0) (by simp only [List.mem_cons, List.mem_append]; exact .inr (.inr (.inr (.inr (.inl (.inl (getD_mem' (by rw [hI.la]; exact htp))))))))
    have hx := hWI1.fit tp t
    have c2 := sign_i (ent2 W1 tp t) G hx (by omega)
    rcases hrest with ⟨h0, hCE2⟩ | ⟨h0, hCE2⟩
    ·obtain ⟨eW, hCI2⟩ := hCI.skip hc hRE0 h0
     have q4 : ((ent2 W1 tp t).sign == 0) = true := by rw [h0]; rfl
     unfold ent2 at c2 q4 gdt
     unfold iv sv at c2
     unfold ivC sv at gdt
     simp only [zl8, zl7] at gdt
     unfold wkH workC
     (repeat (first | (with_reducible refine oA ?_) | ((apply SO.call); (iterate 3 (focus (simp (disch := omega) only [go_sem, ↓reduceIte] <;> rfl))); (apply SCall.ofX); (focus (assumption)); (focus (simp (disch := omega) only [go_sem] <;> rfl))) | ((with_reducible first | apply SC.condB | apply SC.region | apply SO.run); (focus (simp (disch := omega) only [go_sem, ↓reduceIte, zn1, reduceCtorEq, if_pos, if_neg, q4, git, gRt, gdt, glt, y2t, y3t, y4t, y5t, z1] <;> rfl)); (first | refine pickT ?_ | fail_if_success with_reducible refine pickA ?_)) | (with_reducible apply SC.ops)))
     refine hK1 _ (t + 1, tp, W1, a, b, nx) ?_ ⟨⟨pv, by rw [eW]; exact hCI2⟩, hCE2, hI, hge, hnx⟩ (by simp only; omega)
     unfold wkH workC
     (refine Le.slots ?_ ?_ ?_ <;> (repeat' (first | (exact fun _ _ h => h) | exact znb _ | exact leSl_nil | refine leSl_cons sG ?_ ?_ | exact VLe.refl rfl)))
    ·have q4 : ((ent2 W1 tp t).sign == 0) = false := by rw [beq_eq_false_iff_ne]; intro e; exact h0 (Int.sign_eq_zero_iff_zero.1 e)
     obtain ⟨r1, r2, r3, r4, r5⟩ := hCI.red0 hGb htp hRE0 h0 hn
     have hCI3 := hCI.piv hc htp hRE0 h0 hn
     generalize hZ : (if ent2 W1 tp t < 0 then negW h tp W1 else W1) = Z at *
     have hZW := r4.wi (znc _) htp hn hKc
     have c7 := negate_q hWI1 (by omega) hIn htp hn hw
     have q6 : ent2 W1 tp t < 0 → decide ((ent2 W1 tp t).sign < 0) = true := fun hs => by rw [decide_eq_true_iff, Int.sign_eq_neg_one_of_neg hs]; decide
     have q7 : ¬ ent2 W1 tp t < 0 → decide ((ent2 W1 tp t).sign < 0) = false := fun hs => by rw [decide_eq_false_iff_not, Int.sign_eq_one_of_pos (by omega)]; decide
     have hZ1 : ent2 W1 tp t < 0 → negW h tp W1 = Z := fun hs => by rw [← hZ, if_pos hs]
     have hZ2 : ¬ ent2 W1 tp t < 0 → W1 = Z := fun hs => by rw [← hZ, if_neg hs]
     clear hZ
     unfold ent2 at c2 q4 q6 q7 gdt hZ1 hZ2
     unfold iv sv at c2
     unfold ivC sv at gdt
     simp only [zl8, zl7] at gdt
     unfold wkH workC
     (repeat (first | (with_reducible refine oA ?_) | ((apply SO.call); (iterate 3 (focus (simp (disch := omega) only [go_sem, ↓reduceIte] <;> rfl))); (apply SCall.ofX); (focus (assumption)); (focus (simp (disch := omega) only [go_sem] <;> rfl))) | ((with_reducible first | apply SC.condB | apply SC.region | apply SO.run); (focus (simp (disch := omega) only [go_sem, ↓reduceIte, zn1, reduceCtorEq, if_pos, if_neg, q4, git, gRt, gdt, glt, y2t, y3t, y4t, y5t, z1] <;> rfl)); (first | refine pickF ?_ | fail_if_success with_reducible refine pickA ?_)) | (with_reducible apply SC.ops)))
     refine SC.condI (fun _ : Unit => ⟨[(1, .pt 0 0), (2, .pt 1 0), (3, .pt p 0), (4, .sc (.int .i64 tp)), (5, .sc (.int .i64 t))], (1, ⟨38, HZ, false⟩) :: (0, ⟨28, [.sc (.int .i64 h), .sc (.int .i64 w), .im (imR w (rI A)) h], false⟩) :: wkH p oM oU oV h w a b c0 Z, nx, 173⟩) (fun _ => True) sF (fun hb K6 hK6 => ?_) (fun hb K6 hK6 => ?_) ?_
     ·have hs : (W1.getD tp []).getD t 0 < 0 := Classical.byContradiction fun hn' => by rw [q7 hn'] at hb; cases hb
      rw [hZ1 hs] at c7
      (repeat (first | ((with_reducible first | apply SC.region | apply SO.run); (focus (simp (disch := omega) only [go_sem, ↓reduceIte, zn1] <;> rfl)); (fail_if_success with_reducible refine pickA ?_)) | (with_reducible apply SC.ops)))
      refine SO.inlQ sG Tab.go31 sG sG (SInlQ.part [(1, _), (0, _)] (fun i => 2 ≤ i ∧ i < n1) c7 not2' (wk_in (nx := 0) hge) ?_ ?_)
      ·rintro x hp' nx' ⟨rfl, rfl, rfl⟩
       exact ⟨.tu (fun _ h => by cases h), wk_only (nx := 0) hge, wk_in (nx := 0) hge⟩
      rintro x hp' nx' ⟨rfl, rfl, rfl⟩
      (repeat ((with_reducible refine oA ?_)))
      refine hK6 _ () ?_ trivial
      (refine Le.slots ?_ ?_ ?_ <;> (repeat' (first | (exact fun _ _ h => h) | exact znb _ | exact leSl_nil | refine leSl_cons sG ?_ ?_ | exact VLe.refl rfl)))
     ·have hs : ¬ (W1.getD tp []).getD t 0 < 0 := fun hp => by rw [q6 hp] at hb; cases hb
      have := hZ2 hs
      subst this
      (repeat ((with_reducible refine oA ?_)))
      refine hK6 _ () ?_ trivial
      unfold wkH workC
      (refine Le.slots ?_ ?_ ?_ <;> (repeat' (first | (exact fun _ _ h => h) | exact znb _ | exact leSl_nil | refine leSl_cons sG ?_ ?_ | exact VLe.refl rfl)))
     intro _ _
     (repeat (first | (with_reducible refine oA ?_) | ((with_reducible apply SC.region); (focus (simp (disch := omega) only [go_sem, ↓reduceIte] <;> rfl)); (fail_if_success with_reducible refine pickA ?_))))
     clear q6 q7 c7 hZ1 hZ2
     refine SC.loop (fun x : Nat × List (List Int) × Nat => ⟨[(1, .pt 0 0), (2, .pt 1 0), (3, .pt p 0), (4, .sc (.int .i64 tp)), (5, .sc (.int .i64 t)), (10, .sc (.int .i64 x.1))], (1, ⟨38, HZ, false⟩) :: (0, ⟨28, [.sc (.int .i64 h), .sc (.int .i64 w), .im (imR w (rI A)) h], false⟩) :: wkH p oM oU oV h w a b c0 x.2.1, x.2.2, 173⟩)
      (fun x => x.1 ≤ tp ∧ RedI h w t tp (4294967296 ^ Kc) (4294967296 ^ Kc * (12 * 4294967296 ^ Kc) ^ (h - (tp + 1))) x.1 Z x.2.1 ∧ redW h t tp (tp - x.1) x.1 x.2.1 = redW h t tp tp 0 Z ∧ n1 ≤ x.2.2) (fun x => tp - x.1) (0, Z, nx) ?_ ?_ ?_
     ·(refine Le.slots ?_ ?_ ?_ <;> (repeat' (first | (exact fun _ _ h => h) | exact znb _ | exact leSl_nil | refine leSl_cons sG ?_ ?_ | exact VLe.refl rfl)))
     ·exact ⟨znc _, r4, rfl, hnx⟩
     ·rintro ⟨i, V, nx⟩ ⟨hi, hRd, hfin, hnx⟩ K5 hK5
      simp only at hi hRd hfin hnx ⊢
      by_cases hlt : i < tp
      ·as_aux_lemma =>
        have q6 := decide_eq_true (p := (i : Int) < (tp : Int)) (by omega)
        have hRn := hRd.next hlt htp r2 r3
        have hVI := hRd.wi hi htp hn hKc
        have hWS := hRd.ws
        have ep : ent2 V tp t = ent2 Z tp t := hRd.row tp htp hi t
        have hIn := hI.up hnx
        obtain ⟨gii, gRi, y1i, y2i, y3i, y4i, y5i, gdi, g2i, gli⟩ := hI.cell hWS (i := i) (t := t) (by omega) hc
        obtain ⟨git, gRt, y1t, y2t, y3t, y4t, y5t, gdt, g2t, glt⟩ := hI.cell hWS (i := tp) (t := t) (by omega) hc
        have x5 := hge (a.getD i 0) (by simp only [List.mem_cons, List.mem_append]; exact .inr (.inr (.inr (.inr (.inl (.inl (getD_mem' (by rw [hI.la]; omega))))))))
        have c1 := floor_i (ent2 V i t) (ent2 V tp t) G (hVI.fit i t) (hVI.fit tp t) (by omega) (by rw [ep]; omega)
        have hq : Fits G (ent2 V i t / ent2 V tp t) := fits_quo (hVI.fit i t)
        have c2 := neg_i (ent2 V i t / ent2 V tp t) G hq (by omega)
        have c5 := addto_q hVI (fits_neg hq) (by omega) hIn (show i < h by omega) htp (by omega) hn hw
        rw [show tp - i = (tp - (i + 1)) + 1 by omega, redW] at hfin
        clear r4 hCI3 hCE2 hRd hVI ep
        unfold iv sv at c5
        generalize hk : -(ent2 V i t / ent2 V tp t) = k at *
        generalize hq0 : ent2 V i t / ent2 V tp t = q at *
        unfold ent2 at c1
        unfold ent2 at gdi gdt
        unfold iv sv at c1 c2
        unfold ivC sv at gdi gdt
        simp only [zl8, zl7] at gdi gdt
        unfold wkH workC
        (repeat (first | (with_reducible refine SC.condB sF ?_; with_reducible refine pickT ?_) | (with_reducible refine oA ?_) | ((with_reducible apply SC.region); (focus (simp (disch := omega) only [go_sem, ↓reduceIte, zn1, q6]; rfl)))))
        refine SC.drawT 27 (by simp only [zl3, zl4]; rfl) (by simp only [zl9, zl2]; rfl) Tab.mixed ?_ (by kernel_rfl) ?_
        ·exact klc (show 1 < nx by omega) (klc (show 0 < nx by omega) (wk_lt hIn))
        (repeat (first | refine DO.nilF (fun i => i + 1 - nx) (by simp (disch := omega) only [go_sem, zld, zle, Option.map_none, zne] <;> rfl) (by kernel_rfl) ?_ | (with_reducible refine oA ?_) | ((first | apply SO.call | apply DO.call); (iterate 3 (focus (simp (disch := omega) only [go_sem, ↓reduceIte, zn1, if_pos, if_neg, ga, z1] <;> rfl))); (apply DCall.ofX); (focus (assumption)); (focus (simp (disch := omega) only [go_sem] <;> rfl))) | ((with_reducible apply DO.run); (focus (simp (disch := omega) only [go_sem, ↓reduceIte, zn1, reduceCtorEq, if_pos, if_neg, gii, gRi, gdi, gli, y2i, y3i, y4i, y5i, git, gRt, gdt, glt, y2t, y3t, y4t, y5t, z1] <;> rfl)); (fail_if_success with_reducible refine pickA ?_))))
        show SO _ _ _ _ _ _ _
        refine SO.inlQ sG (by rfl) sG sG (SInlQ.part [(1, _), (0, _)] (fun i => 2 ≤ i ∧ i < n1) c5 not2' (wk_in (nx := 0) hge) ?_ ?_)
        ·rintro x hp' nx' ⟨rfl, rfl, rfl⟩
         exact ⟨.tu (fun _ h => by cases h), wk_only (nx := 0) hge, wk_in (nx := 0) hge⟩
        rintro x hp' nx' ⟨rfl, rfl, rfl⟩
        (repeat (first | (with_reducible refine oA ?_) | ((with_reducible apply SC.region); (focus (simp (disch := omega) only [go_sem, ↓reduceIte, zn1] <;> rfl)); (fail_if_success with_reducible refine pickA ?_))))
        refine hK5 _ (i + 1, addW h i tp k V, nx') ?_ ⟨by simp only; omega, hRn, hfin, hnx⟩ (by simp only; omega)
        (refine Le.slots ?_ ?_ ?_ <;> (repeat' (first | (exact fun _ _ h => h) | exact znb _ | exact leSl_nil | refine leSl_cons sG ?_ ?_ | exact VLe.refl rfl)))
      ·have q6 := decide_eq_false (p := (i : Int) < (tp : Int)) (by omega)
       have hie : i = tp := by omega
       subst hie
       have hV : V = redW h t i i 0 Z := by rw [← hfin, Nat.sub_self]; rfl
       (repeat (first | (with_reducible refine oA ?_) | ((with_reducible first | apply SC.condB | apply SC.region); (focus (simp (disch := omega) only [go_sem, ↓reduceIte, zn1, q6] <;> rfl)); (first | refine pickF ?_ | fail_if_success with_reducible refine pickA ?_))))
       refine hK1 _ (t + 1, i + 1, V, a, b, nx) ?_ ⟨⟨_, by rw [hV]; exact hCI3⟩, by rw [hV]; exact hCE2, hI, hge, hnx⟩ (by simp only; omega)
       (refine Le.slots ?_ ?_ ?_ <;> (repeat' (first | (exact fun _ _ h => h) | exact znb _ | exact leSl_nil | refine leSl_cons sG ?_ ?_ | exact VLe.refl rfl)))
   ·have q2 := decide_eq_false (p := (tp : Int) < (h : Int)) (by omega)
    have hWW : W' = W := by cases hCE with | done _ => rfl | skip _ h1 => exact absurd h1 htp | piv _ h1 => exact absurd h1 htp
    subst hWW
    (repeat (first | (with_reducible refine oA ?_) | ((with_reducible first | apply SC.condB | apply SC.region); (focus (simp (disch := omega) only [go_sem, ↓reduceIte, zn1, reduceCtorEq, q1, q2] <;> rfl)); (first | refine pickF ?_ | fail_if_success with_reducible refine pickA ?_))))
    refine hK0 _ (tp, t, W', a, b, nx) ?_ ⟨hCI.ws, hCI.wi, hI, hge, hnx⟩
    (refine Le.slots ?_ ?_ ?_ <;> (repeat' (first | (exact fun _ _ h => h) | exact znb _ | exact leSl_nil | refine leSl_cons sG ?_ ?_ | exact VLe.refl rfl)))
  ·have q1 := decide_eq_false (p := (t : Int) < (w : Int)) (by omega)
   have hWW : W' = W := by cases hCE with | done _ => rfl | skip h1 => exact absurd h1 hc | piv h1 => exact absurd h1 hc
   subst hWW
   (repeat (first | (with_reducible refine oA ?_) | ((with_reducible first | apply SC.condB | apply SC.region); (focus (simp (disch := omega) only [go_sem, ↓reduceIte, zn1, reduceCtorEq, q1] <;> rfl)); (first | refine pickF ?_ | fail_if_success with_reducible refine pickA ?_))))
   refine hK0 _ (tp, t, W', a, b, nx) ?_ ⟨hCI.ws, hCI.wi, hI, hge, hnx⟩
   (refine Le.slots ?_ ?_ ?_ <;> (repeat' (first | (exact fun _ _ h => h) | exact znb _ | exact leSl_nil | refine leSl_cons sG ?_ ?_ | exact VLe.refl rfl)))
 rintro ⟨tp, t, W, a, b, nx⟩ ⟨hWS, hWI, hI, hge, hnx⟩
 clear hI0 hE hWk hA
 obtain ⟨l1, l2, l3, l4⟩ := hI.lts
 obtain ⟨z1, z2, z3, z4, z5, z6⟩ := hI.nes
 simp only at hI hge hnx l1 l2 l3 l4 ⊢
 have x1 := hge p (by simp)
 have x2 := hge oM (by simp)
 have x3 := hge oU (by simp)
 have x4 := hge oV (by simp)
 have la := hI.la
 have lb := hI.lb
 have lc := hI.lc
 have hWl := hWS.len
 have hM := rI_rows hWI.take
 have hU := rI_rows (work_u hWI)
 have hV := rI_rows (work_v hWI)
 have lU : ((W'.drop h).take h).length = h := (work_u hWI).len
 have lV : (W'.drop (2 * h)).length = h := (work_v hWI).len
 have lM : (W'.take h).length = h := hWI.take.len
 have hrow : ∀ C D : List V, ∀ q, q < 3 * h → hget ((1, (⟨38, C, false⟩ : Blk)) :: (0, ⟨28, D, false⟩) :: wkH p oM oU oV h w a b c0 W') ((a ++ b ++ c0).getD q 0) = some ⟨43, ivR (W'.getD q []), false⟩ := by
  intro C D q hq
  obtain ⟨gR, y1, y2, y3, y4, y5⟩ := hI.row hWl (q := q) (by omega)
  have x5 := hge ((a ++ b ++ c0).getD q 0) (by simp only [List.mem_cons]; exact .inr (.inr (.inr (.inr (getD_mem' (by rw [zl1, zl1]; omega))))))
  unfold wkH
  simp only [hget]
  rw [if_neg (by omega), if_neg (by omega), if_neg y2, if_neg y3, if_neg y4, if_neg y5, gR]
 have hrM : ∀ C D : List V, ∀ k, k < a.length → hget ((1, (⟨38, C, false⟩ : Blk)) :: (0, ⟨28, D, false⟩) :: wkH p oM oU oV h w a b c0 W') (a.getD k 0) = some ⟨43, (rI (W'.take h)).getD k [], false⟩ := fun C D k hk => by
  have := hrow C D k (by omega)
  rw [hI.iM (by omega)] at this
  rw [this, rI_getD, take_get (by omega)]
 have hrU : ∀ C D : List V, ∀ k, k < b.length → hget ((1, (⟨38, C, false⟩ : Blk)) :: (0, ⟨28, D, false⟩) :: wkH p oM oU oV h w a b c0 W') (b.getD k 0) = some ⟨43, (rI ((W'.drop h).take h)).getD k [], false⟩ := fun C D k hk => by
  have := hrow C D (h + k) (by omega)
  rw [hI.iU (by omega)] at this
  rw [this, rI_getD, take_get (by omega), getD_drop2]
 have hrV : ∀ C D : List V, ∀ k, k < c0.length → hget ((1, (⟨38, C, false⟩ : Blk)) :: (0, ⟨28, D, false⟩) :: wkH p oM oU oV h w a b c0 W') (c0.getD k 0) = some ⟨43, (rI (W'.drop (2 * h))).getD k [], false⟩ := fun C D k hk => by
  have := hrow C D (2 * h + k) (by omega)
  rw [hI.iV] at this
  rw [this, rI_getD, getD_drop2]
 have g1 := slR_len 2 w a
 have g2 := slR_len 2 h b
 have g3 := slR_len 2 h c0
 rw [la] at g1
 rw [lb] at g2
 rw [lc] at g3
 have hkl := hI.kl (W := W') (m := nx) hnx
 unfold hermC
 by_cases h0 : h = 0
 ·subst h0
  have ha : a = [] := List.eq_nil_of_length_eq_zero (by omega)
  have hb : b = [] := List.eq_nil_of_length_eq_zero (by omega)
  have hc : c0 = [] := List.eq_nil_of_length_eq_zero (by omega)
  have hWe : W' = [] := List.eq_nil_of_length_eq_zero (by omega)
  subst ha; subst hb; subst hc; subst hWe
  clear hrow hrM hrU hrV
  unfold wkH workC HZ at *
  have hkl2 : klB (rowsH 43 [] (rI [])) nx = true := rfl
  (repeat (first | refine DO.nilF (fun i => i + 1 - nx) (by simp (disch := omega) only [go_sem, zn4, zld, zle, Option.map_some, Option.map_none, zne, zn4] <;> rfl) (by kernel_rfl) ?_ | (with_reducible refine oA ?_) | ((with_reducible apply DO.run); (focus (simp (disch := omega) only [go_sem, ↓reduceIte, zn1, zn2, zn3, zn4, reduceCtorEq, if_neg] <;> rfl)); (fail_if_success with_reducible refine pickA ?_)) | ((with_reducible refine SC.draw Tab.mixed ?_ ?_); (focus (simp (disch := omega) only [go_sem, if_pos, hkl2])))))
  exact retQ_ret Try.results11 sG (by simp (disch := omega) only [go_sem, ↓reduceIte, zn5, if_pos, if_neg, z1, z2, z3, z4, z5, z6] <;> rfl) rfl
 ·have s1 := slR_some (z := 2) (m := w) (ids := a) (by omega)
  have s2 := slR_some (z := 2) (m := h) (ids := b) (by omega)
  have s3 := slR_some (z := 2) (m := h) (ids := c0) (by omega)
  have f1 := fun C D : List V => frz_rowsA (n := 5) (z := 2) (m := w) (ty := 43) (ids := a) (rs := rI (W'.take h)) (by omega) (by rw [rI_len]; omega) (hrM C D) hM
  have f2 := fun C D : List V => frz_rowsA (n := 5) (z := 2) (m := h) (ty := 43) (ids := b) (rs := rI ((W'.drop h).take h)) (by omega) (by rw [rI_len]; omega) (hrU C D) hU
  have f3 := fun C D : List V => frz_rowsA (n := 5) (z := 2) (m := h) (ty := 43) (ids := c0) (rs := rI (W'.drop (2 * h))) (by omega) (by rw [rI_len]; omega) (hrV C D) hV
  have t1 : (slR 2 w a).take h = slR 2 w a := zla (by omega)
  have t2 : (slR 2 h b).take h = slR 2 h b := zla (by omega)
  have t3 : (slR 2 h c0).take h = slR 2 h c0 := zla (by omega)
  clear hrow hrM hrU hrV
  unfold wkH workC HZ at *
  (repeat (first | refine DO.nilF (fun i => i + 1 - nx) (by simp (disch := omega) only [go_sem, zn4, zld, zle, Option.map_some, Option.map_none, zne, zn4] <;> rfl) (by kernel_rfl) ?_ | (with_reducible refine oA ?_) | ((with_reducible apply DO.run); (focus (simp (disch := omega) only [go_sem, ↓reduceIte, zn1, zn2, zn3, zn4, reduceCtorEq, if_neg] <;> rfl)); (fail_if_success with_reducible refine pickA ?_)) | ((with_reducible refine SC.draw Tab.mixed ?_ ?_); (focus (simp (disch := omega) only [go_sem, if_pos, hkl])))))
  exact retQ_ret Try.results11 sG (by simp (disch := omega) only [go_sem, ↓reduceIte, if_pos, if_neg, f1, f2, f3, s1, s2, s3, t1, t2, t3, g1, g2, g3, z1, z2, z3, z4, z5, z6] <;> rfl) rfl
theorem form_ex {h w K : Nat} {A : List (List Int)} (hA : MI h w K A) (hh : h ≤ 1000000) :
  ∃ W' r p K2, ColsE h w 0 0 (A ++ idL h ++ idL h) W' ∧ WS h w W' ∧ LinI h w A W' ∧ IsH h w (ent2 W') r p ∧ Gb h W' (fun _ => 4294967296 ^ K2) (fun _ => 4294967296 ^ K2) ∧ (K2 + 1) * fact (h - r + 1) ≤ (K + 1) * fact (h + 1) := by
 have hI := form_start hA
 obtain ⟨W', hE⟩ := ColsE.ex hh w (znb _) hI
 obtain ⟨c', top', p', hd, hI'⟩ := hE.inv hh hI
 obtain ⟨K2, hG, hK⟩ := hI'.bd
 exact ⟨W', top', p', K2, hE, hI'.ws, hI'.lin, hI'.hs.isH hd, hG, hK⟩
end Go.Proofs.Ytdcbmdmlhjemmaa
namespace Go.Proofs.Ytdcbmdmlhjemmaa
theorem SubL.trans {h w : Nat} {M N P : Nat → Nat → Int} (h1 : SubL h w M N) (h2 : SubL h w N P) : SubL h w M P := by
 intro i hi
 obtain ⟨c, hc⟩ := h2 i hi
 have hch : ∀ s : Nat, ∃ d : Nat → Int, s < h → ∀ j, j < w → N s j = dotI d (fun t => M t j) h := fun s => by
  by_cases hs : s < h
  ·obtain ⟨d, hd⟩ := h1 s hs; exact ⟨d, fun _ => hd⟩
  ·exact ⟨fun _ => 0, fun e => absurd e hs⟩
 refine ⟨fun t => dotI c (fun s => (hch s).choose t) h, fun j hj => ?_⟩
 rw [dot_dot, hc j hj]
 exact dot_congr fun s hs => ⟨rfl, by rw [(hch s).choose_spec hs j hj]⟩
section
variable {h w N : Nat} {A W : List (List Int)} {o : OpL}
theorem actW_lin (hL : LinI h w A W) (hW : WS h w W) (ho : OkI h o) : LinI h w A (actW h W o) ∧ WS h w (actW h W o) := by
 have hi := ho.i
 unfold actW
 rcases ho.c with ⟨e, hj, hij, _⟩ | ⟨e, _, _⟩ | ⟨e, hj, hij⟩
 ·rw [if_pos e]; exact ⟨hL.swap hW hi hj hij, swapW_ws hW hi hj⟩
 ·rw [if_neg (by omega), if_pos e]; exact ⟨hL.neg hW hi, negW_ws hW hi⟩
 ·rw [if_neg (by omega), if_neg (by omega)]; exact ⟨hL.add hW hi hj hij, addW_ws hW hi hj⟩
theorem actW_bd (hW : WS h w W) (ho : OkI h o) (hB : ∀ q t, q < 3 * h → (ent2 W q t).natAbs ≤ N) : ∀ q t, q < 3 * h → (ent2 (actW h W o) q t).natAbs ≤ N * (1 + o.k.natAbs) := by
 intro q t hq
 have hi := ho.i
 have hN : N ≤ N * (1 + o.k.natAbs) := Nat.le_mul_of_pos_right _ (by omega)
 have hadd : ∀ a b c d : Nat, a < 3 * h → c < 3 * h → ((ent2 W a b) + o.k * ent2 W c d).natAbs ≤ N * (1 + o.k.natAbs) := fun a b c d ha hc => by
  have := abs_addmul (hB a b ha) (hB c d hc) (znb o.k.natAbs)
  rw [Nat.mul_add, zn8, Nat.mul_comm N]; exact this
 have hsub : ∀ a b c d : Nat, a < 3 * h → c < 3 * h → ((ent2 W a b) - o.k * ent2 W c d).natAbs ≤ N * (1 + o.k.natAbs) := fun a b c d ha hc => by
  have e : (o.k * ent2 W c d).natAbs ≤ o.k.natAbs * N := by rw [Int.natAbs_mul]; exact Nat.mul_le_mul_left _ (hB c d hc)
  have := hB a b ha
  rw [Nat.mul_add, zn8, Nat.mul_comm N]; omega
 unfold actW
 rcases ho.c with ⟨e, hj, hij, _⟩ | ⟨e, _, _⟩ | ⟨e, hj, hij⟩
 ·rw [if_pos e, swapW_ent hW hi hj hq]
  split
  ·rename_i h1
   have := swi_lt hi hj h1
   exact Nat.le_trans (hB _ t (by omega)) hN
  ·split
   ·have := swi_lt (q := q - h) hi hj (by omega)
    exact Nat.le_trans (hB _ t (by omega)) hN
   ·exact Nat.le_trans (hB q _ hq) hN
 ·rw [if_neg (by omega), if_pos e, negW_ent hW hi hq]
  split
  ·rw [Int.natAbs_neg]; exact Nat.le_trans (hB q t hq) hN
  ·exact Nat.le_trans (hB q t hq) hN
 ·rw [if_neg (by omega), if_neg (by omega), addW_ent hW hi hj hq]
  split
  ·exact hadd _ _ _ _ (by omega) (by omega)
  ·split
   ·exact hadd _ _ _ _ (by omega) (by omega)
   ·split
    ·exact hsub _ _ _ _ hq hq
    ·exact Nat.le_trans (hB q t hq) hN
theorem actsW_all : ∀ {l : List OpL} {N : Nat} {W : List (List Int)}, LinI h w A W → WS h w W → (∀ o ∈ l, OkI h o) → (∀ q t, q < 3 * h → (ent2 W q t).natAbs ≤ N) →
  LinI h w A (actsW h W l) ∧ WS h w (actsW h W l) ∧ ∀ q t, q < 3 * h → (ent2 (actsW h W l) q t).natAbs ≤ N * prd l
 | [], N, W, hL, hW, _, hB => ⟨hL, hW, fun q t hq => by rw [prd, zn8]; exact hB q t hq⟩
 | o :: l, N, W, hL, hW, ho, hB => by
  obtain ⟨h1, h2⟩ := actW_lin hL hW (ho o (by simp))
  have := actsW_all (l := l) h1 h2 (fun p hp => ho p (by simp [hp])) (actW_bd hW (ho o (by simp)) hB)
  rw [prd, ← Nat.mul_assoc]; exact this
theorem ws_wi {K : Nat} (hW : WS h w W) (hB : ∀ q t, q < 3 * h → (ent2 W q t).natAbs ≤ N) (hK : N < 4294967296 ^ K) : WI h w K W := by
 refine ⟨hW.len, hW.rowM, hW.rowU, fun q t => ?_⟩
 by_cases hq : q < 3 * h
 ·exact Nat.lt_of_le_of_lt (hB q t hq) hK
 ·have := hW.len
  have e : W.getD q [] = [] := by rw [List.getD_eq_getElem?_getD, List.getElem?_eq_none (by omega)]; rfl
  rw [e]
  show Nat.lt _ _
  have : ([] : List Int).getD t 0 = 0 := by simp
  rw [this]; exact Nat.lt_of_le_of_lt (znc _) hK
end
theorem invL_prd : ∀ l : List OpL, prd (invL l) = prd l
 | [] => rfl
 | o :: l => by
  rw [invL_cons, prd_app, invL_prd l]
  show prd l * ((1 + (-o.k).natAbs) * 1) = (1 + o.k.natAbs) * prd l
  rw [zn8, Int.natAbs_neg, Nat.mul_comm]
theorem invL_okI {h : Nat} {l : List OpL} (hl : ∀ o ∈ l, OkI h o) : ∀ o ∈ invL l, OkI h o := fun o ho => by
 unfold invL at ho
 obtain ⟨p, hp, rfl⟩ := List.mem_map.1 (List.mem_reverse.1 ho)
 obtain ⟨h1, h2⟩ := hl p hp
 refine ⟨h1, ?_⟩
 rcases h2 with ⟨a, b, c, d⟩ | ⟨a, b, c⟩ | ⟨a, b, c⟩
 ·exact .inl ⟨a, b, c, by show -p.k = 0; rw [d]; rfl⟩
 ·exact .inr (.inl ⟨a, b, by show -p.k = 0; rw [c]; rfl⟩)
 ·exact .inr (.inr ⟨a, b, c⟩)
theorem bounds4 : ∀ h, h < 5 → ∀ w, w < 5 → btF h w 0 4 ≤ 7000 ∧ cnF h w 0 4 ≤ 2000 := by decide
theorem red_all {h w : Nat} {M : List (List Int)} (hM : MI h w 1 M) (hN : ∀ q t, q < h → (ent2 M q t).natAbs ≤ 9) (hh : h < 5) (hw : w < 5) :
  ∃ l Mf W', Cols h w 0 0 M l Mf ∧ l.length ≤ 2000 ∧ (∀ o ∈ l, OkOp h o) ∧ (∀ i, MI h w 2000 (actsO M (l.take i))) ∧ (∀ i, MI h w 2000 (actsO Mf ((invL l).take i))) ∧ (∀ i, WI h w 2000 (actsW h (M ++ idL h ++ idL h) (l.take i))) ∧ ColsE h w 0 0 (M ++ idL h ++ idL h) W' ∧ W'.take h = Mf ∧ Mf = actsO M l ∧ actsO Mf (invL l) = M := by
 have hSh : Sh h w M := ⟨hM.len, fun r hr => (hM.get hr).1⟩
 obtain ⟨b1, b2⟩ := bounds4 h hh w hw
 obtain ⟨T, hT⟩ : ∃ T, T = 7000 := ⟨_, rfl⟩
 rw [← hT] at b1
 obtain ⟨l, Mf, r, p, hC, hSf, hH, hP, hL⟩ := red_ex (N := 9) (b := 4) hSh (fun q t hq => hN q t hq) (by omega) (by omega)
 have hok := hC.ok
 have hMf := hC.acts
 have hP2 : 9 * prd l < 2 ^ T := Nat.lt_of_lt_of_le hP (Nat.pow_le_pow_right (by omega) b1)
 have hpp := prd_pos l
 have hOk : ∀ o ∈ l, OkOp h o := okI_ok hok (b := T) (Nat.lt_of_le_of_lt (Nat.le_mul_of_pos_left _ (show 0 < 9 by decide)) hP2) (by omega)
 obtain ⟨W', r', p', K2, hE, hWS, hLin, hH', _, _⟩ := form_ex hM (by omega)
 have hW0 := w0_ws hM
 have hI0 := form_start hM
 have hB0 : ∀ q t, q < 3 * h → (ent2 (M ++ idL h ++ idL h) q t).natAbs ≤ 9 := fun q t hq => by
  by_cases h1 : q < h
  ·have : ent2 (M ++ idL h ++ idL h) q t = ent2 M q t := by unfold ent2; rw [w0_row1 hM h1]
   rw [this]; exact hN q t h1
  ·by_cases h2 : q < 2 * h
   ·obtain ⟨s, rfl⟩ : ∃ s, q = h + s := ⟨q - h, by omega⟩
    have : ent2 (M ++ idL h ++ idL h) (h + s) t = ent2 (idL h) s t := by unfold ent2; rw [w0_row2 hM (by omega)]
    rw [this]; have := idL_abs (h := h) (t := t) (show s < h by omega); omega
   ·obtain ⟨s, rfl⟩ : ∃ s, q = 2 * h + s := ⟨q - 2 * h, by omega⟩
    have : ent2 (M ++ idL h ++ idL h) (2 * h + s) t = ent2 (idL h) s t := by unfold ent2; rw [w0_row3 hM]
    rw [this]; have := idL_abs (h := h) (t := t) (show s < h by omega); omega
 have hWall := actsW_all hI0.lin hW0 hok hB0
 have htop := actsW_take (work0_wi hM) hOk
 have htk : (M ++ idL h ++ idL h).take h = M := by rw [zl6, List.take_append_of_le_length (by rw [hM.len]; omega), zla (by rw [hM.len]; omega)]
 rw [htk, ← hMf] at htop
 have hent : ∀ q t, q < h → ent2 (actsW h (M ++ idL h ++ idL h) l) q t = ent2 Mf q t := fun q t hq => by
  rw [← htop]; unfold ent2; rw [take_get hq]
 have s1 : SubL h w (ent2 M) (ent2 Mf) := fun i hi => ⟨_, fun j hj => by rw [← hent i j hi]; exact hWall.1.l1 i j hi hj⟩
 have s2 : SubL h w (ent2 Mf) (ent2 M) := fun i hi => ⟨_, fun j hj => (hWall.1.l2 i j hi hj).trans (dot_congr fun s hs => ⟨rfl, hent s j hs⟩)⟩
 have t1 : SubL h w (ent2 M) (ent2 W') := fun i hi => ⟨_, fun j hj => hLin.l1 i j hi hj⟩
 have t2 : SubL h w (ent2 W') (ent2 M) := fun i hi => ⟨_, fun j hj => hLin.l2 i j hi hj⟩
 have hu : ∀ i j, i < h → j < w → ent2 Mf i j = ent2 W' i j := fun i j hi hj => IsH.uniq hH hH' (SubL.trans s2 t1) (SubL.trans t2 s1) hi hj
 have hWl := hWS.len
 have hEq : W'.take h = Mf := by
  have hl1 : (W'.take h).length = h := by rw [List.length_take]; omega
  refine List.ext_getElem (by rw [hl1, hSf.len]) fun i h1 h2 => ?_
  have hi : i < h := by omega
  have e1 : (W'.take h)[i] = W'.getD i [] := by
   rw [← take_get (M := W') (h := h) hi, List.getD_eq_getElem?_getD, zlb h1]; rfl
  have e2 : Mf[i] = Mf.getD i [] := by rw [List.getD_eq_getElem?_getD, zlb h2]; rfl
  rw [e1, e2]
  have l1 := hWS.rowM i hi
  have l2 := hSf.row i hi
  refine List.ext_getElem (by rw [l1, l2]) fun j h3 h4 => ?_
  have := hu i j hi (by omega)
  unfold ent2 at this
  rw [List.getD_eq_getElem?_getD, List.getD_eq_getElem?_getD (l := W'.getD i []), zlb h4, zlb h3] at this
  exact this.symm
 have hBf : Bd h (9 * prd l) Mf := by rw [hMf]; exact acts_bd hSh hok fun q t hq => hN q t hq
 refine ⟨l, Mf, W', hC, by omega, hOk, fun i => states_mi hSh (fun q t hq => hN q t hq) hok hP2 (by omega) i, fun i => states_mi hSf hBf (invL_okI hok) (b := T + T) ?_ (by omega) i, fun i => ?_, hE, hEq, hMf, ?_⟩
 ·rw [invL_prd]
  have h1 : prd l < 2 ^ T := Nat.lt_of_le_of_lt (Nat.le_mul_of_pos_left _ (show 0 < 9 by decide)) hP2
  calc 9 * prd l * prd l < 2 ^ T * 2 ^ T := Nat.mul_lt_mul'' hP2 h1
   _ = 2 ^ (T + T) := (Nat.pow_add 2 T T).symm
 ·have ho' : ∀ o ∈ l.take i, OkI h o := fun o h => hok o (List.mem_of_mem_take h)
  obtain ⟨_, a2, a3⟩ := actsW_all hI0.lin hW0 ho' hB0
  exact (fun K (hK : T ≤ 32 * K) => ws_wi a2 a3 (pow_limbs (Nat.lt_of_le_of_lt (Nat.mul_le_mul_left _ (prd_take l i)) hP2) hK)) 2000 (by omega)
 ·rw [hMf]; exact (acts_inv hM hOk).1
end Go.Proofs.Ytdcbmdmlhjemmaa
