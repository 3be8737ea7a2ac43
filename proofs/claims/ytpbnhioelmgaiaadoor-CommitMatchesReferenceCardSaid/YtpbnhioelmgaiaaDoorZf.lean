/- Texts joined: Cf Cg Ch Ci Cj. -/
import Derived.Test.YtpbnhioelmgaiaaDoorZc
import Derived.Test.YtpbnhioelmgaiaaDoorZe
set_option linter.all false
open Nat renaming reduceEqDiff → zn1, reduceLT → zn2, reduceLeDiff → zn3, reduceAdd → zn4, reduceMul → zn5, reduceSub → zn6, reduceBEq → zn7
open Int renaming reduceToNat → zi1, reducePow → zi2
namespace Go.Proofs.YtpbnhioelmgaiaaDoor
open Go.RowKit
def blockAt (P : List Int) (i : Nat) : List Int := (P.drop (64 * i)).take 64
def hashN (P : List Int) : Nat → St8
  | 0 => st0
  | i + 1 => cmp8 (blockAt P i) (hashN P i)
def digL (s : St8) : List Int := w4 s.a ++ w4 s.b ++ w4 s.c ++ w4 s.d ++ w4 s.e ++ w4 s.f ++ w4 s.g ++ w4 s.h
def sumL (b : List Int) : List Int := digL (hashN (padL b) ((padL b).length / 64))
def U8s (b : List Int) : Prop := ∀ x ∈ b, 0 ≤ x ∧ x < 256
theorem digL_len (s : St8) : (digL s).length = 32 := rfl
theorem sumL_len (b : List Int) : (sumL b).length = 32 := rfl
theorem w4_u8 (x : Int) : U8s (w4 x) := by
  intro y hy
  simp only [w4, List.mem_cons, List.not_mem_nil, or_false] at hy
  rcases hy with rfl | rfl | rfl | rfl <;> omega
theorem U8s.app {a b : List Int} (ha : U8s a) (hb : U8s b) : U8s (a ++ b) := fun x hx => (List.mem_append.1 hx).elim (ha x) (hb x)
theorem digL_u8 (s : St8) : U8s (digL s) := ((((((((w4_u8 _).app (w4_u8 _)).app (w4_u8 _)).app (w4_u8 _)).app (w4_u8 _)).app (w4_u8 _)).app (w4_u8 _)).app (w4_u8 _))
theorem sumL_u8 (b : List Int) : U8s (sumL b) := digL_u8 _
theorem n8b_u8 (n : Int) : U8s (n8b n) := (w4_u8 _).app (w4_u8 _)
theorem padL_u8 {b : List Int} (h : U8s b) : U8s (padL b) := by
  refine ((h.app ?_).app ?_).app (n8b_u8 _)
  · intro x hx; rw [List.mem_singleton.1 hx]; omega
  · intro x hx; rw [(List.mem_replicate.1 hx).2]; omega
theorem padL_64 (b : List Int) : (padL b).length = 64 * ((padL b).length / 64) := by
  have := padL_len b; have := padZ_64 b.length; omega
theorem blockAt_len {P : List Int} {i : Nat} (h : 64 * i + 64 ≤ P.length) : (blockAt P i).length = 64 := by
  unfold blockAt; rw [List.length_take, List.length_drop]; omega
theorem blockAt_u8 {P : List Int} (h : U8s P) (i : Nat) : U8s (blockAt P i) := fun x hx => h x (List.mem_of_mem_drop (List.mem_of_mem_take hx))
theorem bw_block (P : List Int) (i : Nat) : ((bw P).drop (64 * i)).take 64 = bw (blockAt P i) := by
  unfold bw blockAt; rw [List.map_take, List.map_drop]
def digP (s : St8) (t : Nat) : List Int := ((stL s).take t).flatMap w4 ++ List.replicate (4 * (8 - t)) 0
theorem fl4_len : ∀ l : List Int, (l.flatMap w4).length = 4 * l.length
  | [] => rfl
  | x :: l => by rw [List.flatMap_cons, List.length_append, fl4_len l, List.length_cons]; show 4 + _ = _; omega
theorem stL_len (s : St8) : (stL s).length = 8 := rfl
theorem digP_len (s : St8) {t : Nat} (ht : t ≤ 8) : (bw (digP s t)).length = 32 := by
  unfold digP
  rw [bw_len, List.length_append, fl4_len, List.length_take, stL_len, List.length_replicate]; omega
theorem digP_set (s : St8) {t : Nat} (ht : t < 8) : setAll (bw (digP s t)) (4 * t) (bw (w4 ((stL s).getD t 0))) = bw (digP s (t + 1)) := by
  have hl : (bw (((stL s).take t).flatMap w4)).length = 4 * t := by rw [bw_len, fl4_len, List.length_take, stL_len]; omega
  have h := setAll_at (.sc (.int .u8 0)) (bw (w4 ((stL s).getD t 0))) (bw (((stL s).take t).flatMap w4)) (4 * (8 - (t + 1)))
  rw [hl] at h
  have e1 : bw (digP s t) = bw (((stL s).take t).flatMap w4) ++ List.replicate ((bw (w4 ((stL s).getD t 0))).length + 4 * (8 - (t + 1))) (.sc (.int .u8 0)) := by
    have e : (bw (w4 ((stL s).getD t 0))).length + 4 * (8 - (t + 1)) = 4 * (8 - t) := by show 4 + _ = _; omega
    rw [e]; unfold digP; rw [bw_app]; unfold bw; rw [List.map_replicate]
  have e2 : (stL s).take (t + 1) = (stL s).take t ++ [(stL s).getD t 0] := by
    rw [List.take_add_one, getD_some (d := 0) (by rw [stL_len]; exact ht)]; rfl
  rw [e1, h]
  unfold digP
  rw [e2, List.flatMap_append, List.flatMap_cons, List.flatMap_nil, List.append_nil, bw_app, bw_app, List.append_assoc]
  unfold bw; rw [List.map_replicate]
theorem digP_8 (s : St8) : digP s 8 = digL s := by
  unfold digP digL stL
  simp only [List.take_succ_cons, List.take_zero, List.flatMap_cons, List.flatMap_nil, List.append_nil, List.append_assoc, Nat.sub_self, Nat.mul_zero, List.replicate_zero]
theorem setAll_full (l : List Int) (hl : l.length = 32) : setAll (bw (List.replicate 32 0)) 0 (bw l) = bw l := by
  have h := setAll_rep (.sc (.int .u8 0)) (bw l) 0
  rw [bw_len, hl] at h
  simpa [bw] using h
def st0P (t : Nat) : List Int := (stL st0).take t ++ List.replicate (8 - t) 0
theorem st0P_all : ∀ t, t < 8 → (uv (stL st0))[t]? = some (.sc (.int .u32 ((stL st0).getD t 0))) ∧ setAll (uv (st0P t)) t [.sc (.int .u32 ((stL st0).getD t 0))] = uv (st0P (t + 1)) ∧ (uv (st0P t)).length = 8 := by
  intro t ht
  match t, ht with
  | 0, _ => exact ⟨rfl, rfl, rfl⟩
  | 1, _ => exact ⟨rfl, rfl, rfl⟩
  | 2, _ => exact ⟨rfl, rfl, rfl⟩
  | 3, _ => exact ⟨rfl, rfl, rfl⟩
  | 4, _ => exact ⟨rfl, rfl, rfl⟩
  | 5, _ => exact ⟨rfl, rfl, rfl⟩
  | 6, _ => exact ⟨rfl, rfl, rfl⟩
  | 7, _ => exact ⟨rfl, rfl, rfl⟩
set_option maxHeartbeats 16000000 in
set_option maxRecDepth 8000 in
theorem sum_s {b : List Int} (hl : b.length ≤ 1000000) (hu : U8s b) : Spec Tryd.prog 7 [.im (bw b) b.length] (.ag (bw (sumL b))) := by
  have gS := globS
  have g8 : (uv (stL st0)).take 8 = uv (stL st0) := rfl
  generalize hD : sumL b = D
  refine Spec.run Tryd.func7 rfl Tryd.ntmps7 (by simp) (by simp (disch := omega) only [go_sem, ↓reduceIte, zn1, zn2, zn3, zn4, zn5, zn6, reduceCtorEq, zn7, zi1, zi2, if_pos, if_neg]; rfl) fun B hB => ?_
  (repeat (first | (first | refine DO.nilC (by kernel_rfl) ?_ | refine DO.nil (by kernel_rfl) ?_) | (with_reducible first | apply oz1 | apply oz2 | apply oz3 | apply oz4 | apply oz5 | apply oz6 | apply oz7 | apply oz8 | apply oz9 | apply ozb | apply ozc | apply oze | apply ozf | apply ozg | apply ozh | apply ozi | apply ozj | apply ozk | refine ozd (by decide) ?_) | ((first | apply SO.call | apply DO.call); (iterate 3 (focus (simp (disch := omega) only [go_sem, ↓reduceIte, zn1, zn2, zn3, zn4, zn5, zn6, reduceCtorEq, zn7, zi1, zi2, if_pos, if_neg, gS, g8] <;> rfl))); (first | apply SCall.ofX | apply DCall.ofX); (focus (first | assumption)); (focus (simp (disch := omega) only [go_sem, ↓reduceIte, zn1, zn2, zn3, zn4, zn5, zn6, reduceCtorEq, zn7, zi1, zi2, if_pos, if_neg, gS, g8] <;> rfl))) | ((apply DO.callL; (iterate 3 (focus (simp (disch := omega) only [go_sem, ↓reduceIte, zn1, zn2, zn3, zn4, zn5, zn6, reduceCtorEq, zn7, zi1, zi2, if_pos, if_neg, gS, g8] <;> rfl)))); apply DCall.ofX; (focus (first | assumption)); (focus (simp (disch := omega) only [go_sem, ↓reduceIte, zn1, zn2, zn3, zn4, zn5, zn6, reduceCtorEq, zn7, zi1, zi2, if_pos, if_neg, gS, g8] <;> rfl))) | ((first | apply SO.callV | apply DO.callV); (focus (simp (disch := omega) only [go_sem, ↓reduceIte, zn1, zn2, zn3, zn4, zn5, zn6, reduceCtorEq, zn7, zi1, zi2, if_pos, if_neg, gS, g8]; rfl)); (focus (simp (disch := omega) only [go_sem, ↓reduceIte, zn1, zn2, zn3, zn4, zn5, zn6, reduceCtorEq, zn7, zi1, zi2, if_pos, if_neg, gS, g8])); (focus (simp (disch := omega) only [go_sem, ↓reduceIte, zn1, zn2, zn3, zn4, zn5, zn6, reduceCtorEq, zn7, zi1, zi2, if_pos, if_neg, gS, g8]; rfl)); (focus (simp (disch := omega) only [go_sem, ↓reduceIte, zn1, zn2, zn3, zn4, zn5, zn6, reduceCtorEq, zn7, zi1, zi2, if_pos, if_neg, gS, g8] <;> rfl)); (first | apply SCallV.of | apply DCall.ofX); (focus (first | assumption)); (focus (simp (disch := omega) only [go_sem, ↓reduceIte, zn1, zn2, zn3, zn4, zn5, zn6, reduceCtorEq, zn7, zi1, zi2, if_pos, if_neg, gS, g8] <;> rfl))) | ((with_reducible first | apply SC.condB | apply SC.region | apply SO.run | apply DO.run); (focus (simp (disch := omega) only [go_sem, ↓reduceIte, zn1, zn2, zn3, zn4, zn5, zn6, reduceCtorEq, zn7, zi1, zi2, if_pos, if_neg, gS, g8] <;> rfl)); (first | refine pickT ?_ | refine pickF ?_ | fail_if_success with_reducible refine pickA ?_)) | ((with_reducible refine SC.draw Tab.mixed ?_ ?_); (focus (first | rfl | simp (disch := omega) only [go_sem, ↓reduceIte, zn1, zn2, zn3, zn4, zn5, zn6, reduceCtorEq, zn7, zi1, zi2, if_pos, if_neg, gS, g8]))) | (with_reducible apply SC.ops)))
  refine SC.loop (fun t : Nat => ⟨[(0, .im (bw b) b.length), (2, .pt 0 0), (3, .pt 1 0), (12, .ag (uv (stL st0))), (13, .sc (.int .i64 t))], [(1, ⟨58, uv (st0P t), false⟩), (0, ⟨25, bw (List.replicate 32 0), false⟩)], 2, 51⟩)
    (fun t => t ≤ 8) (fun t => 8 - t) 0 ?_ ?_ ?_
  · have e1 : uv (st0P 0) = [.sc (.int .u32 0), .sc (.int .u32 0), .sc (.int .u32 0), .sc (.int .u32 0), .sc (.int .u32 0), .sc (.int .u32 0), .sc (.int .u32 0), .sc (.int .u32 0)] := rfl
    rw [e1]
    simp only [g8]
    (refine Le.slots ?_ ?_ ?_ <;> (repeat' (first | (exact fun _ _ h => h) | exact Nat.le_refl _ | exact leSl_nil | refine leSl_cons (by simp (disch := omega) only [go_sem, ↓reduceIte, zn1, zn2, zn3, zn4, zn5, zn6, reduceCtorEq, zn7, zi1, zi2, if_pos, if_neg] <;> rfl) ?_ ?_ | exact VLe.junk _ | exact VLe.refl rfl | exact VLe.nil_sl _ _ _ | exact VLe.int (by first | rfl | omega | (dsimp only; omega)) | exact VLe.bool rfl | exact VLe.sl rfl (by first | rfl | omega) | exact VLe.cap rfl (by first | rfl | omega) | exact VLe.im rfl rfl | omega | (refine fun id k h => ?_; simp only [hget] at h ⊢; (repeat' (split at h)) <;> first | (cases h; done) | (simp (disch := omega) only [if_pos, if_neg]; exact h)))))
  · exact Nat.zero_le _
  · intro t ht K hK
    by_cases hc : t < 8
    · as_aux_lemma =>
        have q1 : decide ((t : Int) < 8) = true := decide_eq_true (by omega)
        obtain ⟨g1, g2, g3⟩ := st0P_all t hc
        generalize (stL st0).getD t 0 = x at *
        have g5 : (uv (stL st0)).length = 8 := rfl
        have g6 : t < (uv (st0P t)).length := by omega
        generalize uv (st0P t) = R2 at *
        (repeat (first | (first | refine DO.nilC (by kernel_rfl) ?_ | refine DO.nil (by kernel_rfl) ?_) | (with_reducible first | apply oz1 | apply oz2 | apply oz3 | apply oz4 | apply oz5 | apply oz6 | apply oz7 | apply oz8 | apply oz9 | apply ozb | apply ozc | apply oze | apply ozf | apply ozg | apply ozh | apply ozi | apply ozj | apply ozk | refine ozd (by decide) ?_) | ((first | apply SO.call | apply DO.call); (iterate 3 (focus (simp (disch := omega) only [go_sem, ↓reduceIte, zn1, zn2, zn3, zn4, zn5, zn6, reduceCtorEq, zn7, zi1, zi2, if_pos, if_neg, q1, g1, g2, g3, g5, g6, List.getElem?_drop] <;> rfl))); (first | apply SCall.ofX | apply DCall.ofX); (focus (first | assumption)); (focus (simp (disch := omega) only [go_sem, ↓reduceIte, zn1, zn2, zn3, zn4, zn5, zn6, reduceCtorEq, zn7, zi1, zi2, if_pos, if_neg, q1, g1, g2, g3, g5, g6, List.getElem?_drop] <;> rfl))) | ((apply DO.callL; (iterate 3 (focus (simp (disch := omega) only [go_sem, ↓reduceIte, zn1, zn2, zn3, zn4, zn5, zn6, reduceCtorEq, zn7, zi1, zi2, if_pos, if_neg, q1, g1, g2, g3, g5, g6, List.getElem?_drop] <;> rfl)))); apply DCall.ofX; (focus (first | assumption)); (focus (simp (disch := omega) only [go_sem, ↓reduceIte, zn1, zn2, zn3, zn4, zn5, zn6, reduceCtorEq, zn7, zi1, zi2, if_pos, if_neg, q1, g1, g2, g3, g5, g6, List.getElem?_drop] <;> rfl))) | ((first | apply SO.callV | apply DO.callV); (focus (simp (disch := omega) only [go_sem, ↓reduceIte, zn1, zn2, zn3, zn4, zn5, zn6, reduceCtorEq, zn7, zi1, zi2, if_pos, if_neg, q1, g1, g2, g3, g5, g6, List.getElem?_drop]; rfl)); (focus (simp (disch := omega) only [go_sem, ↓reduceIte, zn1, zn2, zn3, zn4, zn5, zn6, reduceCtorEq, zn7, zi1, zi2, if_pos, if_neg, q1, g1, g2, g3, g5, g6, List.getElem?_drop])); (focus (simp (disch := omega) only [go_sem, ↓reduceIte, zn1, zn2, zn3, zn4, zn5, zn6, reduceCtorEq, zn7, zi1, zi2, if_pos, if_neg, q1, g1, g2, g3, g5, g6, List.getElem?_drop]; rfl)); (focus (simp (disch := omega) only [go_sem, ↓reduceIte, zn1, zn2, zn3, zn4, zn5, zn6, reduceCtorEq, zn7, zi1, zi2, if_pos, if_neg, q1, g1, g2, g3, g5, g6, List.getElem?_drop] <;> rfl)); (first | apply SCallV.of | apply DCall.ofX); (focus (first | assumption)); (focus (simp (disch := omega) only [go_sem, ↓reduceIte, zn1, zn2, zn3, zn4, zn5, zn6, reduceCtorEq, zn7, zi1, zi2, if_pos, if_neg, q1, g1, g2, g3, g5, g6, List.getElem?_drop] <;> rfl))) | ((with_reducible first | apply SC.condB | apply SC.region | apply SO.run | apply DO.run); (focus (simp (disch := omega) only [go_sem, ↓reduceIte, zn1, zn2, zn3, zn4, zn5, zn6, reduceCtorEq, zn7, zi1, zi2, if_pos, if_neg, q1, g1, g2, g3, g5, g6, List.getElem?_drop] <;> rfl)); (first | refine pickT ?_ | refine pickF ?_ | fail_if_success with_reducible refine pickA ?_)) | ((with_reducible refine SC.draw Tab.mixed ?_ ?_); (focus (first | rfl | simp (disch := omega) only [go_sem, ↓reduceIte, zn1, zn2, zn3, zn4, zn5, zn6, reduceCtorEq, zn7, zi1, zi2, if_pos, if_neg, q1, g1, g2, g3, g5, g6, List.getElem?_drop]))) | (with_reducible apply SC.ops)))
        refine hK _ (t + 1) ?_ (by omega) (by omega)
        (refine Le.slots ?_ ?_ ?_ <;> (repeat' (first | (exact fun _ _ h => h) | exact Nat.le_refl _ | exact leSl_nil | refine leSl_cons (by simp (disch := omega) only [go_sem, ↓reduceIte, zn1, zn2, zn3, zn4, zn5, zn6, reduceCtorEq, zn7, zi1, zi2, if_pos, if_neg] <;> rfl) ?_ ?_ | exact VLe.junk _ | exact VLe.refl rfl | exact VLe.nil_sl _ _ _ | exact VLe.int (by first | rfl | omega | (dsimp only; omega)) | exact VLe.bool rfl | exact VLe.sl rfl (by first | rfl | omega) | exact VLe.cap rfl (by first | rfl | omega) | exact VLe.im rfl rfl | omega | (refine fun id k h => ?_; simp only [hget] at h ⊢; (repeat' (split at h)) <;> first | (cases h; done) | (simp (disch := omega) only [if_pos, if_neg]; exact h)))))
    · have q1 : decide ((t : Int) < 8) = false := decide_eq_false (by omega)
      have ht8 : t = 8 := by omega
      subst ht8
      have e8 : uv (st0P 8) = uv (stL st0) := rfl
      rw [e8]
      clear hK gS g8
      (repeat (first | (first | refine DO.nilC (by kernel_rfl) ?_ | refine DO.nil (by kernel_rfl) ?_) | (with_reducible first | apply oz1 | apply oz2 | apply oz3 | apply oz4 | apply oz5 | apply oz6 | apply oz7 | apply oz8 | apply oz9 | apply ozb | apply ozc | apply oze | apply ozf | apply ozg | apply ozh | apply ozi | apply ozj | apply ozk | refine ozd (by decide) ?_) | ((first | apply SO.call | apply DO.call); (iterate 3 (focus (simp (disch := omega) only [go_sem, ↓reduceIte, zn1, zn2, zn3, zn4, zn5, zn6, reduceCtorEq, zn7, zi1, zi2, if_pos, if_neg, q1] <;> rfl))); (first | apply SCall.ofX | apply DCall.ofX); (focus (first | assumption)); (focus (simp (disch := omega) only [go_sem, ↓reduceIte, zn1, zn2, zn3, zn4, zn5, zn6, reduceCtorEq, zn7, zi1, zi2, if_pos, if_neg, q1] <;> rfl))) | ((apply DO.callL; (iterate 3 (focus (simp (disch := omega) only [go_sem, ↓reduceIte, zn1, zn2, zn3, zn4, zn5, zn6, reduceCtorEq, zn7, zi1, zi2, if_pos, if_neg, q1] <;> rfl)))); apply DCall.ofX; (focus (first | assumption)); (focus (simp (disch := omega) only [go_sem, ↓reduceIte, zn1, zn2, zn3, zn4, zn5, zn6, reduceCtorEq, zn7, zi1, zi2, if_pos, if_neg, q1] <;> rfl))) | ((first | apply SO.callV | apply DO.callV); (focus (simp (disch := omega) only [go_sem, ↓reduceIte, zn1, zn2, zn3, zn4, zn5, zn6, reduceCtorEq, zn7, zi1, zi2, if_pos, if_neg, q1]; rfl)); (focus (simp (disch := omega) only [go_sem, ↓reduceIte, zn1, zn2, zn3, zn4, zn5, zn6, reduceCtorEq, zn7, zi1, zi2, if_pos, if_neg, q1])); (focus (simp (disch := omega) only [go_sem, ↓reduceIte, zn1, zn2, zn3, zn4, zn5, zn6, reduceCtorEq, zn7, zi1, zi2, if_pos, if_neg, q1]; rfl)); (focus (simp (disch := omega) only [go_sem, ↓reduceIte, zn1, zn2, zn3, zn4, zn5, zn6, reduceCtorEq, zn7, zi1, zi2, if_pos, if_neg, q1] <;> rfl)); (first | apply SCallV.of | apply DCall.ofX); (focus (first | assumption)); (focus (simp (disch := omega) only [go_sem, ↓reduceIte, zn1, zn2, zn3, zn4, zn5, zn6, reduceCtorEq, zn7, zi1, zi2, if_pos, if_neg, q1] <;> rfl))) | ((with_reducible first | apply SC.condB | apply SC.region | apply SO.run | apply DO.run); (focus (simp (disch := omega) only [go_sem, ↓reduceIte, zn1, zn2, zn3, zn4, zn5, zn6, reduceCtorEq, zn7, zi1, zi2, if_pos, if_neg, q1] <;> rfl)); (first | refine pickT ?_ | refine pickF ?_ | fail_if_success with_reducible refine pickA ?_)) | ((with_reducible refine SC.draw Tab.mixed ?_ ?_); (focus (first | rfl | simp (disch := omega) only [go_sem, ↓reduceIte, zn1, zn2, zn3, zn4, zn5, zn6, reduceCtorEq, zn7, zi1, zi2, if_pos, if_neg, q1]))) | (with_reducible apply SC.ops)))
      refine SO.inlQ (by simp (disch := omega) only [go_sem, ↓reduceIte, zn1, zn2, zn3, zn4, zn5, zn6, reduceCtorEq, zn7, zi1, zi2, if_pos, if_neg] <;> rfl) Tab.go20 (by simp (disch := omega) only [go_sem, ↓reduceIte, zn1, zn2, zn3, zn4, zn5, zn6, reduceCtorEq, zn7, zi1, zi2, if_pos, if_neg] <;> rfl) (by simp (disch := omega) only [go_sem, ↓reduceIte, zn1, zn2, zn3, zn4, zn5, zn6, reduceCtorEq, zn7, zi1, zi2, if_pos, if_neg] <;> rfl) (SInlQ.newR (padded_q 2 hl) (fun id k h => ?_) (fun y hp' nx' h => ?_) ?_)
      · simp only [hget] at h
        split at h
        · omega
        · split at h
          · omega
          · cases h
      · obtain ⟨q, h1, h2, rfl, rfl⟩ := h
        refine ⟨.sl h1, ⟨fun y hy => Only.clo (List.all_eq_true.1 (bw_clo _) y hy), trivial⟩, fun id k hk => ?_⟩
        simp only [hget] at hk
        split at hk
        · omega
        · cases hk
      rintro y hp' nx1 ⟨q, h1, h2, rfl, rfl⟩
      simp only [List.cons_append, List.nil_append]
      have hP := padL_64 b
      have hPl : (padL b).length ≤ 2000000 := by
        have h1 := padL_len b
        have h2 : padZ b.length < 64 := by unfold padZ; omega
        omega
      have hPu := padL_u8 hu
      have hS : D = digL (hashN (padL b) ((padL b).length / 64)) := hD.symm
      clear hD
      generalize padL b = P at *
      generalize hm : P.length / 64 = m at *
      have gb := bw_len P
      have gc := bw_clo P
      have gt : (bw P).take P.length = bw P := List.take_of_length_le (by omega)
      (repeat (first | (first | refine DO.nilC (by kernel_rfl) ?_ | refine DO.nil (by kernel_rfl) ?_) | (with_reducible first | apply oz1 | apply oz2 | apply oz3 | apply oz4 | apply oz5 | apply oz6 | apply oz7 | apply oz8 | apply oz9 | apply ozb | apply ozc | apply oze | apply ozf | apply ozg | apply ozh | apply ozi | apply ozj | apply ozk | refine ozd (by decide) ?_) | ((first | apply SO.call | apply DO.call); (iterate 3 (focus (simp (disch := omega) only [go_sem, ↓reduceIte, zn1, zn2, zn3, zn4, zn5, zn6, reduceCtorEq, zn7, zi1, zi2, if_pos, if_neg] <;> rfl))); (first | apply SCall.ofX | apply DCall.ofX); (focus (first | assumption)); (focus (simp (disch := omega) only [go_sem, ↓reduceIte, zn1, zn2, zn3, zn4, zn5, zn6, reduceCtorEq, zn7, zi1, zi2, if_pos, if_neg] <;> rfl))) | ((with_reducible first | apply SC.condB | apply SC.region | apply SO.run | apply DO.run); (focus (simp (disch := omega) only [go_sem, ↓reduceIte, zn1, zn2, zn3, zn4, zn5, zn6, reduceCtorEq, zn7, zi1, zi2, if_pos, if_neg] <;> rfl)); (first | refine pickT ?_ | refine pickF ?_ | fail_if_success with_reducible refine pickA ?_)) | ((with_reducible refine SC.draw Tab.mixed ?_ ?_); (focus (first | rfl | simp (disch := omega) only [go_sem, ↓reduceIte, zn1, zn2, zn3, zn4, zn5, zn6, reduceCtorEq, zn7, zi1, zi2, if_pos, if_neg]))) | (with_reducible apply SC.ops)))
      refine SC.frz 6 (by simp) (y := .im (bw P) P.length) (ids := [q]) (by simp (disch := omega) only [go_sem, ↓reduceIte, zn1, zn2, zn3, zn4, zn5, zn6, reduceCtorEq, zn7, zi1, zi2, if_pos, if_neg, gb, gc, gt, List.drop_zero, Nat.mul_one] <;> rfl) (by omega) (hp' := [(1, ⟨58, uv (stL st0), false⟩), (0, ⟨25, bw (List.replicate 32 0), false⟩), (q, ⟨5, bw P, true⟩)]) (by simp only [fzHp, List.map_cons, List.map_nil, List.contains_cons, List.contains_nil, Bool.or_false, beq_self_eq_true, if_true, beq_false_of_ne (show (1 : Nat) ≠ q by omega), beq_false_of_ne (show (0 : Nat) ≠ q by omega), Bool.false_eq_true, if_false]) ?_
      refine SC.loop (fun i : Nat => ⟨[(2, .pt 0 0), (3, .pt 1 0), (6, .im (bw P) P.length), (7, .sc (.int .i64 ((64 * i : Nat) : Int)))], [(1, ⟨58, uv (stL (hashN P i)), false⟩), (0, ⟨25, bw (List.replicate 32 0), false⟩)], nx1, 51⟩)
        (fun i => i ≤ m) (fun i => m - i) 0 ?_ ?_ ?_
      · have e1 : uv (stL (hashN P 0)) = uv (stL st0) := rfl
        rw [e1]
        (refine Le.slots ?_ ?_ ?_ <;> (repeat' (first | (exact fun _ _ h => h) | exact Nat.le_refl _ | exact leSl_nil | refine leSl_cons (by simp (disch := omega) only [go_sem, ↓reduceIte, zn1, zn2, zn3, zn4, zn5, zn6, reduceCtorEq, zn7, zi1, zi2, if_pos, if_neg] <;> rfl) ?_ ?_ | exact VLe.junk _ | exact VLe.refl rfl | exact VLe.nil_sl _ _ _ | exact VLe.int (by first | rfl | omega | (dsimp only; omega)) | exact VLe.bool rfl | exact VLe.sl rfl (by first | rfl | omega) | exact VLe.cap rfl (by first | rfl | omega) | exact VLe.im rfl rfl | omega | (refine fun id k h => ?_; simp only [hget] at h ⊢; (repeat' (split at h)) <;> first | (cases h; done) | (simp (disch := omega) only [if_pos, if_neg]; exact h)))))
      · exact Nat.zero_le _
      · intro i hi K hK
        by_cases hc : i < m
        · as_aux_lemma =>
            have q1 : decide (((64 * i : Nat) : Int) < (P.length : Int)) = true := decide_eq_true (by omega)
            have c1 := compress_s (b := blockAt P i) (hashN P i) (blockAt_len (by omega)) (blockAt_u8 hPu i)
            have e : cmp8 (blockAt P i) (hashN P i) = hashN P (i + 1) := rfl
            rw [e] at c1
            have e2 := bw_block P i
            have gx : (uv (stL (hashN P i))).length = 8 := rfl
            have x0 : ((64 * i : Nat) : Int).toNat = 64 * i := by omega
            have x1 : (((64 * i : Nat) : Int) + 64).toNat = 64 * i + 64 := by omega
            have x2 : 64 * i + 64 - 64 * i = 64 := by omega
            generalize hashN P i = H at *
            generalize hH2 : hashN P (i + 1) = H2 at *
            generalize blockAt P i = bl at *
            (repeat (first | (first | refine DO.nilC (by kernel_rfl) ?_ | refine DO.nil (by kernel_rfl) ?_) | (with_reducible first | apply oz1 | apply oz2 | apply oz3 | apply oz4 | apply oz5 | apply oz6 | apply oz7 | apply oz8 | apply oz9 | apply ozb | apply ozc | apply oze | apply ozf | apply ozg | apply ozh | apply ozi | apply ozj | apply ozk | refine ozd (by decide) ?_) | ((first | apply SO.call | apply DO.call); (iterate 3 (focus (simp (disch := omega) only [go_sem, ↓reduceIte, zn1, zn2, zn3, zn4, zn5, zn6, reduceCtorEq, zn7, zi1, zi2, if_pos, if_neg, q1, x0, x1, x2, e2, gx, Nat.mul_one] <;> rfl))); (first | apply SCall.ofX | apply DCall.ofX); (focus (first | assumption)); (focus (simp (disch := omega) only [go_sem, ↓reduceIte, zn1, zn2, zn3, zn4, zn5, zn6, reduceCtorEq, zn7, zi1, zi2, if_pos, if_neg, q1, x0, x1, x2, e2, gx, Nat.mul_one] <;> rfl))) | ((apply DO.callL; (iterate 3 (focus (simp (disch := omega) only [go_sem, ↓reduceIte, zn1, zn2, zn3, zn4, zn5, zn6, reduceCtorEq, zn7, zi1, zi2, if_pos, if_neg, q1, x0, x1, x2, e2, gx, Nat.mul_one] <;> rfl)))); apply DCall.ofX; (focus (first | assumption)); (focus (simp (disch := omega) only [go_sem, ↓reduceIte, zn1, zn2, zn3, zn4, zn5, zn6, reduceCtorEq, zn7, zi1, zi2, if_pos, if_neg, q1, x0, x1, x2, e2, gx, Nat.mul_one] <;> rfl))) | ((first | apply SO.callV | apply DO.callV); (focus (simp (disch := omega) only [go_sem, ↓reduceIte, zn1, zn2, zn3, zn4, zn5, zn6, reduceCtorEq, zn7, zi1, zi2, if_pos, if_neg, q1, x0, x1, x2, e2, gx, Nat.mul_one]; rfl)); (focus (simp (disch := omega) only [go_sem, ↓reduceIte, zn1, zn2, zn3, zn4, zn5, zn6, reduceCtorEq, zn7, zi1, zi2, if_pos, if_neg, q1, x0, x1, x2, e2, gx, Nat.mul_one])); (focus (simp (disch := omega) only [go_sem, ↓reduceIte, zn1, zn2, zn3, zn4, zn5, zn6, reduceCtorEq, zn7, zi1, zi2, if_pos, if_neg, q1, x0, x1, x2, e2, gx, Nat.mul_one]; rfl)); (focus (simp (disch := omega) only [go_sem, ↓reduceIte, zn1, zn2, zn3, zn4, zn5, zn6, reduceCtorEq, zn7, zi1, zi2, if_pos, if_neg, q1, x0, x1, x2, e2, gx, Nat.mul_one] <;> rfl)); (first | apply SCallV.of | apply DCall.ofX); (focus (first | assumption)); (focus (simp (disch := omega) only [go_sem, ↓reduceIte, zn1, zn2, zn3, zn4, zn5, zn6, reduceCtorEq, zn7, zi1, zi2, if_pos, if_neg, q1, x0, x1, x2, e2, gx, Nat.mul_one] <;> rfl))) | ((with_reducible first | apply SC.condB | apply SC.region | apply SO.run | apply DO.run); (focus (simp (disch := omega) only [go_sem, ↓reduceIte, zn1, zn2, zn3, zn4, zn5, zn6, reduceCtorEq, zn7, zi1, zi2, if_pos, if_neg, q1, x0, x1, x2, e2, gx, Nat.mul_one] <;> rfl)); (first | refine pickT ?_ | refine pickF ?_ | fail_if_success with_reducible refine pickA ?_)) | ((with_reducible refine SC.draw Tab.mixed ?_ ?_); (focus (first | rfl | simp (disch := omega) only [go_sem, ↓reduceIte, zn1, zn2, zn3, zn4, zn5, zn6, reduceCtorEq, zn7, zi1, zi2, if_pos, if_neg, q1, x0, x1, x2, e2, gx, Nat.mul_one]))) | (with_reducible apply SC.ops)))
            refine hK _ (i + 1) ?_ (by omega) (by omega)
            have e3 : setAll (uv (stL H)) 0 (uv (stL H2)) = uv (stL H2) := rfl
            rw [e3, hH2]
            (refine Le.slots ?_ ?_ ?_ <;> (repeat' (first | (exact fun _ _ h => h) | exact Nat.le_refl _ | exact leSl_nil | refine leSl_cons (by simp (disch := omega) only [go_sem, ↓reduceIte, zn1, zn2, zn3, zn4, zn5, zn6, reduceCtorEq, zn7, zi1, zi2, if_pos, if_neg] <;> rfl) ?_ ?_ | exact VLe.junk _ | exact VLe.refl rfl | exact VLe.nil_sl _ _ _ | exact VLe.int (by first | rfl | omega | (dsimp only; omega)) | exact VLe.bool rfl | exact VLe.sl rfl (by first | rfl | omega) | exact VLe.cap rfl (by first | rfl | omega) | exact VLe.im rfl rfl | omega | (refine fun id k h => ?_; simp only [hget] at h ⊢; (repeat' (split at h)) <;> first | (cases h; done) | (simp (disch := omega) only [if_pos, if_neg]; exact h)))))
        · have q1 : decide (((64 * i : Nat) : Int) < (P.length : Int)) = false := decide_eq_false (by omega)
          have him : i = m := by omega
          subst him
          generalize hashN P i = H at *
          clear hK gb gc gt hP hPl hPu hm hc
          have gx : (uv (stL H)).take 8 = uv (stL H) := rfl
          (repeat (first | (first | refine DO.nilC (by kernel_rfl) ?_ | refine DO.nil (by kernel_rfl) ?_) | (with_reducible first | apply oz1 | apply oz2 | apply oz3 | apply oz4 | apply oz5 | apply oz6 | apply oz7 | apply oz8 | apply oz9 | apply ozb | apply ozc | apply oze | apply ozf | apply ozg | apply ozh | apply ozi | apply ozj | apply ozk | refine ozd (by decide) ?_) | ((first | apply SO.call | apply DO.call); (iterate 3 (focus (simp (disch := omega) only [go_sem, ↓reduceIte, zn1, zn2, zn3, zn4, zn5, zn6, reduceCtorEq, zn7, zi1, zi2, if_pos, if_neg, q1, gx] <;> rfl))); (first | apply SCall.ofX | apply DCall.ofX); (focus (first | assumption)); (focus (simp (disch := omega) only [go_sem, ↓reduceIte, zn1, zn2, zn3, zn4, zn5, zn6, reduceCtorEq, zn7, zi1, zi2, if_pos, if_neg, q1, gx] <;> rfl))) | ((with_reducible first | apply SC.condB | apply SC.region | apply SO.run | apply DO.run); (focus (simp (disch := omega) only [go_sem, ↓reduceIte, zn1, zn2, zn3, zn4, zn5, zn6, reduceCtorEq, zn7, zi1, zi2, if_pos, if_neg, q1, gx] <;> rfl)); (first | refine pickT ?_ | refine pickF ?_ | fail_if_success with_reducible refine pickA ?_)) | ((with_reducible refine SC.draw Tab.mixed ?_ ?_); (focus (first | rfl | simp (disch := omega) only [go_sem, ↓reduceIte, zn1, zn2, zn3, zn4, zn5, zn6, reduceCtorEq, zn7, zi1, zi2, if_pos, if_neg, q1, gx]))) | (with_reducible apply SC.ops)))
          refine SC.loop (fun t : Nat => ⟨[(2, .pt 0 0), (8, .pt nx1 0), (38, .ag (uv (stL H))), (39, .sc (.int .i64 t))], [(nx1, ⟨25, bw (digP H t), false⟩), (0, ⟨25, bw (List.replicate 32 0), false⟩)], nx1 + 1, 51⟩)
            (fun t => t ≤ 8) (fun t => 8 - t) 0 ?_ ?_ ?_
          · have e1 : bw (digP H 0) = [.sc (.int .u8 0), .sc (.int .u8 0), .sc (.int .u8 0), .sc (.int .u8 0), .sc (.int .u8 0), .sc (.int .u8 0), .sc (.int .u8 0), .sc (.int .u8 0), .sc (.int .u8 0), .sc (.int .u8 0), .sc (.int .u8 0), .sc (.int .u8 0), .sc (.int .u8 0), .sc (.int .u8 0), .sc (.int .u8 0), .sc (.int .u8 0), .sc (.int .u8 0), .sc (.int .u8 0), .sc (.int .u8 0), .sc (.int .u8 0), .sc (.int .u8 0), .sc (.int .u8 0), .sc (.int .u8 0), .sc (.int .u8 0), .sc (.int .u8 0), .sc (.int .u8 0), .sc (.int .u8 0), .sc (.int .u8 0), .sc (.int .u8 0), .sc (.int .u8 0), .sc (.int .u8 0), .sc (.int .u8 0)] := rfl
            rw [e1]
            (try simp (disch := omega) only [go_sem, ↓reduceIte, zn1, zn2, zn3, zn4, zn5, zn6, reduceCtorEq, zn7, zi1, zi2, if_pos, if_neg, gx])
            (refine Le.slots ?_ ?_ ?_ <;> (repeat' (first | (exact fun _ _ h => h) | exact Nat.le_refl _ | exact leSl_nil | refine leSl_cons (by simp (disch := omega) only [go_sem, ↓reduceIte, zn1, zn2, zn3, zn4, zn5, zn6, reduceCtorEq, zn7, zi1, zi2, if_pos, if_neg] <;> rfl) ?_ ?_ | exact VLe.junk _ | exact VLe.refl rfl | exact VLe.nil_sl _ _ _ | exact VLe.int (by first | rfl | omega | (dsimp only; omega)) | exact VLe.bool rfl | exact VLe.sl rfl (by first | rfl | omega) | exact VLe.cap rfl (by first | rfl | omega) | exact VLe.im rfl rfl | omega | (refine fun id k h => ?_; simp only [hget] at h ⊢; (repeat' (split at h)) <;> first | (cases h; done) | (simp (disch := omega) only [if_pos, if_neg]; exact h)))))
          · exact Nat.zero_le _
          · intro t ht K hK
            by_cases hc : t < 8
            · as_aux_lemma =>
                have q1 : decide ((t : Int) < 8) = true := decide_eq_true (by omega)
                have g1 := uv_get (l := stL H) (i := t) (by rw [stL_len]; exact hc)
                have g2 := digP_set H hc
                have g3 := digP_len H ht
                have c1 := wordN_s ((stL H).getD t 0)
                generalize (stL H).getD t 0 = x at *
                have g4 := bw_len (w4 x)
                have g5 : (w4 x).length = 4 := rfl
                rw [g5] at g4
                have g6 := bw_one (w4 x)
                have g7 : (bw (w4 x)).take 4 = bw (w4 x) := List.take_of_length_le (by omega)
                have g8 : (uv (stL H)).length = 8 := rfl
                have x1 : (4 * (t : Int)).toNat = 4 * t := by omega
                have x2 : min 4 (32 - 4 * t) = 4 := by omega
                generalize bw (w4 x) = W4 at *
                generalize hR : bw (digP H t) = R2 at *
                have gm : (32 ≤ maxLen) = True := eq_true (by decide)
                (repeat (first | (first | refine DO.nilC (by kernel_rfl) ?_ | refine DO.nil (by kernel_rfl) ?_) | (with_reducible refine SC.condB (by simp (disch := omega) only [go_sem, ↓reduceIte, zn1, zn2, zn3, zn4, zn5, zn6, reduceCtorEq, zn7, zi1, zi2, if_pos, if_neg, q1, g1, g8, List.getElem?_drop]; rfl) ?_; first | with_reducible refine pickT ?_ | with_reducible refine pickF ?_) | (with_reducible first | apply oz1 | apply oz2 | apply oz3 | apply oz4 | apply oz5 | apply oz6 | apply oz7 | apply oz8 | apply oz9 | apply ozb | apply ozc | apply oze | apply ozf | apply ozg | apply ozh | apply ozi | apply ozj | apply ozk | refine ozd (by decide) ?_) | ((with_reducible apply SC.region); (focus (simp (disch := omega) only [go_sem, ↓reduceIte, zn1, zn2, zn3, zn4, zn5, zn6, reduceCtorEq, zn7, zi1, zi2, if_pos, if_neg, q1, g1, g8, List.getElem?_drop]; rfl))) | (with_reducible refine SC.draw Tab.mixed rfl ?_; (repeat (refine DO.run (by simp (disch := omega) only [go_sem, ↓reduceIte, zn1, zn2, zn3, zn4, zn5, zn6, reduceCtorEq, zn7, zi1, zi2, if_pos, if_neg, q1, g1, g8, List.getElem?_drop]; rfl) ?_)); (first | refine DO.nilC (by kernel_rfl) ?_ | refine DO.nil (by kernel_rfl) ?_))))
                refine SC.drawT 5 (by simp only [List.take_succ_cons, List.take_zero]; rfl) (by simp only [List.drop_succ_cons, List.drop_zero]; rfl) Tab.mixed ?_ (by kernel_rfl) ?_
                · intro id k h
                  show id < nx1 + 1
                  simp only [hget] at h
                  split at h
                  · omega
                  · split at h
                    · omega
                    · cases h
                (repeat (first | (first | refine DO.nilC (by kernel_rfl) ?_ | refine DO.nil (by kernel_rfl) ?_) | (with_reducible first | apply oz1 | apply oz2 | apply oz3 | apply oz4 | apply oz5 | apply oz6 | apply oz7 | apply oz8 | apply oz9 | apply ozb | apply ozc | apply oze | apply ozf | apply ozg | apply ozh | apply ozi | apply ozj | apply ozk | refine ozd (by decide) ?_) | ((first | apply SO.call | apply DO.call); (iterate 3 (focus (simp (disch := omega) only [go_sem, ↓reduceIte, zn1, zn2, zn3, zn4, zn5, zn6, reduceCtorEq, zn7, zi1, zi2, if_pos, if_neg, g3, gm, or_true, and_self, x1, Nat.mul_one, Nat.zero_add] <;> rfl))); (first | apply SCall.ofX | apply DCall.ofX); (focus (first | assumption)); (focus (simp (disch := omega) only [go_sem, ↓reduceIte, zn1, zn2, zn3, zn4, zn5, zn6, reduceCtorEq, zn7, zi1, zi2, if_pos, if_neg, g3, gm, or_true, and_self, x1, Nat.mul_one, Nat.zero_add] <;> rfl))) | ((apply DO.callL; (iterate 3 (focus (simp (disch := omega) only [go_sem, ↓reduceIte, zn1, zn2, zn3, zn4, zn5, zn6, reduceCtorEq, zn7, zi1, zi2, if_pos, if_neg, g3, gm, or_true, and_self, x1, Nat.mul_one, Nat.zero_add] <;> rfl)))); apply DCall.ofX; (focus (first | assumption)); (focus (simp (disch := omega) only [go_sem, ↓reduceIte, zn1, zn2, zn3, zn4, zn5, zn6, reduceCtorEq, zn7, zi1, zi2, if_pos, if_neg, g3, gm, or_true, and_self, x1, Nat.mul_one, Nat.zero_add] <;> rfl))) | ((first | apply SO.callV | apply DO.callV); (focus (simp (disch := omega) only [go_sem, ↓reduceIte, zn1, zn2, zn3, zn4, zn5, zn6, reduceCtorEq, zn7, zi1, zi2, if_pos, if_neg, g3, gm, or_true, and_self, x1, Nat.mul_one, Nat.zero_add]; rfl)); (focus (simp (disch := omega) only [go_sem, ↓reduceIte, zn1, zn2, zn3, zn4, zn5, zn6, reduceCtorEq, zn7, zi1, zi2, if_pos, if_neg, g3, gm, or_true, and_self, x1, Nat.mul_one, Nat.zero_add])); (focus (simp (disch := omega) only [go_sem, ↓reduceIte, zn1, zn2, zn3, zn4, zn5, zn6, reduceCtorEq, zn7, zi1, zi2, if_pos, if_neg, g3, gm, or_true, and_self, x1, Nat.mul_one, Nat.zero_add]; rfl)); (focus (simp (disch := omega) only [go_sem, ↓reduceIte, zn1, zn2, zn3, zn4, zn5, zn6, reduceCtorEq, zn7, zi1, zi2, if_pos, if_neg, g3, gm, or_true, and_self, x1, Nat.mul_one, Nat.zero_add] <;> rfl)); (first | apply SCallV.of | apply DCall.ofX); (focus (first | assumption)); (focus (simp (disch := omega) only [go_sem, ↓reduceIte, zn1, zn2, zn3, zn4, zn5, zn6, reduceCtorEq, zn7, zi1, zi2, if_pos, if_neg, g3, gm, or_true, and_self, x1, Nat.mul_one, Nat.zero_add] <;> rfl))) | ((with_reducible first | apply SC.condB | apply SC.region | apply SO.run | apply DO.run); (focus (simp (disch := omega) only [go_sem, ↓reduceIte, zn1, zn2, zn3, zn4, zn5, zn6, reduceCtorEq, zn7, zi1, zi2, if_pos, if_neg, g3, gm, or_true, and_self, x1, Nat.mul_one, Nat.zero_add] <;> rfl)); (first | refine pickT ?_ | refine pickF ?_ | fail_if_success with_reducible refine pickA ?_)) | ((with_reducible refine SC.draw Tab.mixed ?_ ?_); (focus (first | rfl | simp (disch := omega) only [go_sem, ↓reduceIte, zn1, zn2, zn3, zn4, zn5, zn6, reduceCtorEq, zn7, zi1, zi2, if_pos, if_neg, g3, gm, or_true, and_self, x1, Nat.mul_one, Nat.zero_add]))) | (with_reducible apply SC.ops)))
                show SO _ _ _ _ _ _ _
                (repeat (first | (first | refine DO.nilC (by kernel_rfl) ?_ | refine DO.nil (by kernel_rfl) ?_) | (with_reducible first | apply oz1 | apply oz2 | apply oz3 | apply oz4 | apply oz5 | apply oz6 | apply oz7 | apply oz8 | apply oz9 | apply ozb | apply ozc | apply oze | apply ozf | apply ozg | apply ozh | apply ozi | apply ozj | apply ozk | refine ozd (by decide) ?_) | ((first | apply SO.call | apply DO.call); (iterate 3 (focus (simp (disch := omega) only [go_sem, ↓reduceIte, zn1, zn2, zn3, zn4, zn5, zn6, reduceCtorEq, zn7, zi1, zi2, if_pos, if_neg, g2, g3, g4, g6, g7, x1, x2, List.drop_zero, Nat.mul_one, Nat.zero_add] <;> rfl))); (first | apply SCall.ofX | apply DCall.ofX); (focus (first | assumption)); (focus (simp (disch := omega) only [go_sem, ↓reduceIte, zn1, zn2, zn3, zn4, zn5, zn6, reduceCtorEq, zn7, zi1, zi2, if_pos, if_neg, g2, g3, g4, g6, g7, x1, x2, List.drop_zero, Nat.mul_one, Nat.zero_add] <;> rfl))) | ((with_reducible first | apply SC.condB | apply SC.region | apply SO.run | apply DO.run); (focus (simp (disch := omega) only [go_sem, ↓reduceIte, zn1, zn2, zn3, zn4, zn5, zn6, reduceCtorEq, zn7, zi1, zi2, if_pos, if_neg, g2, g3, g4, g6, g7, x1, x2, List.drop_zero, Nat.mul_one, Nat.zero_add] <;> rfl)); (first | refine pickT ?_ | refine pickF ?_ | fail_if_success with_reducible refine pickA ?_)) | ((with_reducible refine SC.draw Tab.mixed ?_ ?_); (focus (first | rfl | simp (disch := omega) only [go_sem, ↓reduceIte, zn1, zn2, zn3, zn4, zn5, zn6, reduceCtorEq, zn7, zi1, zi2, if_pos, if_neg, g2, g3, g4, g6, g7, x1, x2, List.drop_zero, Nat.mul_one, Nat.zero_add]))) | (with_reducible apply SC.ops)))
                refine hK _ (t + 1) ?_ (by omega) (by omega)
                (refine Le.slots ?_ ?_ ?_ <;> (repeat' (first | (exact fun _ _ h => h) | exact Nat.le_refl _ | exact leSl_nil | refine leSl_cons (by simp (disch := omega) only [go_sem, ↓reduceIte, zn1, zn2, zn3, zn4, zn5, zn6, reduceCtorEq, zn7, zi1, zi2, if_pos, if_neg] <;> rfl) ?_ ?_ | exact VLe.junk _ | exact VLe.refl rfl | exact VLe.nil_sl _ _ _ | exact VLe.int (by first | rfl | omega | (dsimp only; omega)) | exact VLe.bool rfl | exact VLe.sl rfl (by first | rfl | omega) | exact VLe.cap rfl (by first | rfl | omega) | exact VLe.im rfl rfl | omega | (refine fun id k h => ?_; simp only [hget] at h ⊢; (repeat' (split at h)) <;> first | (cases h; done) | (simp (disch := omega) only [if_pos, if_neg]; exact h)))))
            · have q1 : decide ((t : Int) < 8) = false := decide_eq_false (by omega)
              have ht8 : t = 8 := by omega
              subst ht8
              rw [digP_8, ← hS]
              have hDl : (bw D).length = 32 := by rw [hS]; rfl
              have gs := setAll_full D (by rw [← bw_len, hDl])
              have gt : (bw D).take 32 = bw D := List.take_of_length_le (by omega)
              have gr : (bw (List.replicate 32 0)).length = 32 := rfl
              generalize bw (List.replicate 32 0) = R0 at *
              have go := bw_one D
              (repeat (first | (first | refine DO.nilC (by kernel_rfl) ?_ | refine DO.nil (by kernel_rfl) ?_) | (with_reducible first | apply oz1 | apply oz2 | apply oz3 | apply oz4 | apply oz5 | apply oz6 | apply oz7 | apply oz8 | apply oz9 | apply ozb | apply ozc | apply oze | apply ozf | apply ozg | apply ozh | apply ozi | apply ozj | apply ozk | refine ozd (by decide) ?_) | ((first | apply SO.call | apply DO.call); (iterate 3 (focus (simp (disch := omega) only [go_sem, ↓reduceIte, zn1, zn2, zn3, zn4, zn5, zn6, reduceCtorEq, zn7, zi1, zi2, if_pos, if_neg, q1, gs, gt, hDl, gr, go, List.drop_zero] <;> rfl))); (first | apply SCall.ofX | apply DCall.ofX); (focus (first | assumption)); (focus (simp (disch := omega) only [go_sem, ↓reduceIte, zn1, zn2, zn3, zn4, zn5, zn6, reduceCtorEq, zn7, zi1, zi2, if_pos, if_neg, q1, gs, gt, hDl, gr, go, List.drop_zero] <;> rfl))) | ((with_reducible first | apply SC.condB | apply SC.region | apply SO.run | apply DO.run); (focus (simp (disch := omega) only [go_sem, ↓reduceIte, zn1, zn2, zn3, zn4, zn5, zn6, reduceCtorEq, zn7, zi1, zi2, if_pos, if_neg, q1, gs, gt, hDl, gr, go, List.drop_zero] <;> rfl)); (first | refine pickT ?_ | refine pickF ?_ | fail_if_success with_reducible refine pickA ?_)) | ((with_reducible refine SC.draw Tab.mixed ?_ ?_); (focus (first | rfl | simp (disch := omega) only [go_sem, ↓reduceIte, zn1, zn2, zn3, zn4, zn5, zn6, reduceCtorEq, zn7, zi1, zi2, if_pos, if_neg, q1, gs, gt, hDl, gr, go, List.drop_zero]))) | (with_reducible apply SC.ops)))
              exact retQ_ret Tryd.results7 (by simp (disch := omega) only [go_sem, ↓reduceIte, zn1, zn2, zn3, zn4, zn5, zn6, reduceCtorEq, zn7, zi1, zi2, if_pos, if_neg, gt, hDl, bw_clo, List.drop_zero] <;> rfl) (by simp (disch := omega) only [go_sem, ↓reduceIte, zn1, zn2, zn3, zn4, zn5, zn6, reduceCtorEq, zn7, zi1, zi2, if_pos, if_neg, gt, hDl, bw_clo, List.drop_zero] <;> rfl) rfl
end Go.Proofs.YtpbnhioelmgaiaaDoor
namespace Go.Proofs.YtpbnhioelmgaiaaDoor
open Go.RowKit
theorem or_comm32 (a b : Int) : bits .or .u32 a b = bits .or .u32 b a := by
  simp only [bits, BitVec.or_comm]
theorem rotr_s (x : Int) {n : Nat} (h : n < 32) : Spec Tryd.prog 53 [.sc (.int .u32 x), .sc (.int .i64 n)] (.sc (.int .u32 (ror n x))) := by
  have h1 : ((32 : Int) - (n : Int)).toNat = 32 - n := by omega
  have h2 : min (32 - n) 32 = 32 - n := by omega
  have h3 : min n 32 = n := by omega
  have h4 : (x.fdiv (2 ^ n)) = x / 2 ^ n := Int.fdiv_eq_ediv_of_nonneg _ (Int.le_of_lt (Int.pow_pos (by omega)))
  unfold ror
  rw [or_comm32]
  refine Spec.run Tryd.func53 rfl Tryd.ntmps53 (by simp) (by simp (disch := omega) only [go_sem, ↓reduceIte, zn1, zn2, zn3, zn4, zn5, zn6, reduceCtorEq, zn7, zi1, zi2, if_pos, if_neg]; rfl) fun B hB => ?_
  (repeat (first | refine DO.nil (by kernel_rfl) ?_ | (with_reducible first | apply oz1 | apply oz2 | apply oz3 | apply oz4 | apply oz5 | apply oz6 | apply oz7 | apply oz8 | apply oz9 | apply ozb | apply ozc | apply oze | apply ozf | apply ozg | apply ozh | apply ozi | apply ozj | apply ozk | refine ozd (by decide) ?_) | ((first | apply SO.call | apply DO.call); (iterate 3 (focus (simp (disch := omega) only [go_sem, ↓reduceIte, zn1, zn2, zn3, zn4, zn5, zn6, reduceCtorEq, zn7, zi1, zi2, if_pos, if_neg, h1, h2, h3, h4] <;> rfl))); (first | apply SCall.ofX | apply DCall.ofX); (focus (first | assumption)); (focus (simp (disch := omega) only [go_sem, ↓reduceIte, zn1, zn2, zn3, zn4, zn5, zn6, reduceCtorEq, zn7, zi1, zi2, if_pos, if_neg, h1, h2, h3, h4] <;> rfl))) | ((with_reducible first | apply SC.condB | apply SC.region | apply SO.run | apply DO.run); (focus (simp (disch := omega) only [go_sem, ↓reduceIte, zn1, zn2, zn3, zn4, zn5, zn6, reduceCtorEq, zn7, zi1, zi2, if_pos, if_neg, h1, h2, h3, h4] <;> rfl)); (first | refine pickT ?_ | refine pickF ?_ | fail_if_success with_reducible refine pickA ?_)) | ((with_reducible refine SC.draw Tab.mixed ?_ ?_); (focus (first | rfl | simp (disch := omega) only [go_sem, ↓reduceIte, zn1, zn2, zn3, zn4, zn5, zn6, reduceCtorEq, zn7, zi1, zi2, if_pos, if_neg, h1, h2, h3, h4]))) | (with_reducible apply SC.ops)))
  exact retQ_ret Tryd.results53 (by simp (disch := omega) only [go_sem, ↓reduceIte, zn1, zn2, zn3, zn4, zn5, zn6, reduceCtorEq, zn7, zi1, zi2, if_pos, if_neg] <;> rfl) (by simp (disch := omega) only [go_sem, ↓reduceIte, zn1, zn2, zn3, zn4, zn5, zn6, reduceCtorEq, zn7, zi1, zi2, if_pos, if_neg] <;> rfl) rfl
theorem rword_s {l : List Int} (hl : l.length = 4) (hu : ∀ x ∈ l, 0 ≤ x ∧ x < 256) : Spec Tryd.prog 52 [.im (bw l) 4] (.sc (.int .u32 (be4 (l.getD 0 0) (l.getD 1 0) (l.getD 2 0) (l.getD 3 0)))) := by
  have n24 : min 24 32 = 24 := rfl
  have n16 : min 16 32 = 16 := rfl
  have n8 : min 8 32 = 8 := rfl
  have g0 := bw_get (l := l) (i := 0) (by omega)
  have g1 := bw_get (l := l) (i := 1) (by omega)
  have g2 := bw_get (l := l) (i := 2) (by omega)
  have g3 := bw_get (l := l) (i := 3) (by omega)
  have h0 := hu _ (getDm (d := 0) (l := l) (i := 0) (by omega))
  have h1 := hu _ (getDm (d := 0) (l := l) (i := 1) (by omega))
  have h2 := hu _ (getDm (d := 0) (l := l) (i := 2) (by omega))
  have h3 := hu _ (getDm (d := 0) (l := l) (i := 3) (by omega))
  have gb := bw_len l
  rw [hl] at gb
  generalize l.getD 0 0 = b0 at *
  generalize l.getD 1 0 = b1 at *
  generalize l.getD 2 0 = b2 at *
  generalize l.getD 3 0 = b3 at *
  generalize bw l = C at *
  unfold be4
  refine Spec.run Tryd.func52 rfl Tryd.ntmps52 (by simp) (by simp (disch := omega) only [go_sem, ↓reduceIte, zn1, zn2, zn3, zn4, zn5, zn6, reduceCtorEq, zn7, zi1, zi2, if_pos, if_neg]; rfl) fun B hB => ?_
  (repeat (first | refine DO.nil (by kernel_rfl) ?_ | (with_reducible first | apply oz1 | apply oz2 | apply oz3 | apply oz4 | apply oz5 | apply oz6 | apply oz7 | apply oz8 | apply oz9 | apply ozb | apply ozc | apply oze | apply ozf | apply ozg | apply ozh | apply ozi | apply ozj | apply ozk | refine ozd (by decide) ?_) | ((first | apply SO.call | apply DO.call); (iterate 3 (focus (simp (disch := omega) only [go_sem, ↓reduceIte, zn1, zn2, zn3, zn4, zn5, zn6, reduceCtorEq, zn7, zi1, zi2, if_pos, if_neg, g0, g1, g2, g3, gb, List.getElem?_drop, n24, n16, n8] <;> rfl))); (first | apply SCall.ofX | apply DCall.ofX); (focus (first | assumption)); (focus (simp (disch := omega) only [go_sem, ↓reduceIte, zn1, zn2, zn3, zn4, zn5, zn6, reduceCtorEq, zn7, zi1, zi2, if_pos, if_neg, g0, g1, g2, g3, gb, List.getElem?_drop, n24, n16, n8] <;> rfl))) | ((with_reducible first | apply SC.condB | apply SC.region | apply SO.run | apply DO.run); (focus (simp (disch := omega) only [go_sem, ↓reduceIte, zn1, zn2, zn3, zn4, zn5, zn6, reduceCtorEq, zn7, zi1, zi2, if_pos, if_neg, g0, g1, g2, g3, gb, List.getElem?_drop, n24, n16, n8] <;> rfl)); (first | refine pickT ?_ | refine pickF ?_ | fail_if_success with_reducible refine pickA ?_)) | ((with_reducible refine SC.draw Tab.mixed ?_ ?_); (focus (first | rfl | simp (disch := omega) only [go_sem, ↓reduceIte, zn1, zn2, zn3, zn4, zn5, zn6, reduceCtorEq, zn7, zi1, zi2, if_pos, if_neg, g0, g1, g2, g3, gb, List.getElem?_drop, n24, n16, n8]))) | (with_reducible apply SC.ops)))
  exact retQ_ret Tryd.results52 (by simp (disch := omega) only [go_sem, ↓reduceIte, zn1, zn2, zn3, zn4, zn5, zn6, reduceCtorEq, zn7, zi1, zi2, if_pos, if_neg] <;> rfl) (by simp (disch := omega) only [go_sem, ↓reduceIte, zn1, zn2, zn3, zn4, zn5, zn6, reduceCtorEq, zn7, zi1, zi2, if_pos, if_neg] <;> rfl) rfl
theorem consts_s : Spec Tryd.prog 51 [] (.im (uv kT) 64) := Spec.eval (K := fun _ _ => none) (fun _ _ _ h => by cases h) 50 (fun _ => false) (by kernel_rfl)
end Go.Proofs.YtpbnhioelmgaiaaDoor
namespace Go.Proofs.YtpbnhioelmgaiaaDoor
open Go.RowKit
theorem l4_get (b : List Int) (t : Nat) (h : 4 * t + 4 ≤ b.length) : ((b.drop (4 * t)).take 4).length = 4 ∧ ∀ j, j < 4 → ((b.drop (4 * t)).take 4).getD j 0 = b.getD (4 * t + j) 0 := by
  refine ⟨by rw [List.length_take, List.length_drop]; omega, fun j hj => ?_⟩
  rw [List.getD_eq_getElem?_getD, List.getD_eq_getElem?_getD, List.getElem?_take_of_lt hj, List.getElem?_drop]
theorem addR_all (s r : St8) : ∀ t, t < 8 → uv ((stL (add8 s r)).take t) ++ [.sc (.int .u32 (((stL s).getD t 0 + (stL r).getD t 0) % 4294967296))] = uv ((stL (add8 s r)).take (t + 1)) ∧ (uv ((stL (add8 s r)).take t)).length = t := by
  intro t ht
  match t, ht with
  | 0, _ => exact ⟨rfl, rfl⟩
  | 1, _ => exact ⟨rfl, rfl⟩
  | 2, _ => exact ⟨rfl, rfl⟩
  | 3, _ => exact ⟨rfl, rfl⟩
  | 4, _ => exact ⟨rfl, rfl⟩
  | 5, _ => exact ⟨rfl, rfl⟩
  | 6, _ => exact ⟨rfl, rfl⟩
  | 7, _ => exact ⟨rfl, rfl⟩
theorem uv_snoc (l : List Int) (x : Int) : uv (l ++ [x]) = uv l ++ [.sc (.int .u32 x)] := by rw [uv_app]; rfl
set_option maxHeartbeats 16000000 in
set_option maxRecDepth 8000 in
theorem rblock_s {b : List Int} (s : St8) (hb : b.length = 64) (hB8 : ∀ x ∈ b, 0 ≤ x ∧ x < 256) : Spec Tryd.prog 24 [.im (uv (stL s)) 8, .im (bw b) 64] (.im (uv (stL (cmp8 b s))) 8) := by
  have cK := consts_s
  have gb := bw_len b
  rw [hb] at gb
  have gs : (uv (stL s)).length = 8 := rfl
  have gs2 : (uv (stL s)).take 8 = uv (stL s) := rfl
  have gs3 := uv_one (stL s)
  have gc3 := uv_clo (stL s)
  generalize hC : cmp8 b s = C at *
  generalize hKT : uv kT = KT at *
  generalize hHS : uv (stL s) = HS at *
  refine Spec.run Tryd.func24 rfl Tryd.ntmps24 (by simp) (by simp (disch := omega) only [go_sem, ↓reduceIte, zn1, zn2, zn3, zn4, zn5, zn6, reduceCtorEq, zn7, zi1, zi2, if_pos, if_neg]; rfl) fun B hB => ?_
  (repeat (first | refine DO.nil (by kernel_rfl) ?_ | (with_reducible first | apply oz1 | apply oz2 | apply oz3 | apply oz4 | apply oz5 | apply oz6 | apply oz7 | apply oz8 | apply oz9 | apply ozb | apply ozc | apply oze | apply ozf | apply ozg | apply ozh | apply ozi | apply ozj | apply ozk | refine ozd (by decide) ?_) | ((first | apply SO.call | apply DO.call); (iterate 3 (focus (simp (disch := omega) only [go_sem, ↓reduceIte, zn1, zn2, zn3, zn4, zn5, zn6, reduceCtorEq, zn7, zi1, zi2, if_pos, if_neg] <;> rfl))); (first | apply SCall.ofX | apply DCall.ofX); (focus (first | assumption)); (focus (simp (disch := omega) only [go_sem, ↓reduceIte, zn1, zn2, zn3, zn4, zn5, zn6, reduceCtorEq, zn7, zi1, zi2, if_pos, if_neg] <;> rfl))) | ((with_reducible first | apply SC.condB | apply SC.region | apply SO.run | apply DO.run); (focus (simp (disch := omega) only [go_sem, ↓reduceIte, zn1, zn2, zn3, zn4, zn5, zn6, reduceCtorEq, zn7, zi1, zi2, if_pos, if_neg] <;> rfl)); (first | refine pickT ?_ | refine pickF ?_ | fail_if_success with_reducible refine pickA ?_)) | ((with_reducible refine SC.draw Tab.mixed ?_ ?_); (focus (first | rfl | simp (disch := omega) only [go_sem, ↓reduceIte, zn1, zn2, zn3, zn4, zn5, zn6, reduceCtorEq, zn7, zi1, zi2, if_pos, if_neg]))) | (with_reducible apply SC.ops)))
  refine SC.loop (fun t : Nat => ⟨[(0, .im HS 8), (1, .im (bw b) 64), (5, .im KT 64), (6, .sl 0 0 t 1 none), (7, .sc (.int .i64 t))], [(0, ⟨57, uv (sch b t), false⟩)], 1, 224⟩)
    (fun t => t ≤ 64) (fun t => 64 - t) 0 ?_ ?_ ?_
  · (refine Le.slots ?_ ?_ ?_ <;> (repeat' (first | (exact fun _ _ h => h) | exact Nat.le_refl _ | exact leSl_nil | refine leSl_cons (by simp (disch := omega) only [go_sem, ↓reduceIte, zn1, zn2, zn3, zn4, zn5, zn6, reduceCtorEq, zn7, zi1, zi2, if_pos, if_neg] <;> rfl) ?_ ?_ | exact VLe.junk _ | exact VLe.refl rfl | exact VLe.nil_sl _ _ _ | exact VLe.int (by first | rfl | omega | (dsimp only; omega)) | exact VLe.bool rfl | exact VLe.sl rfl (by first | rfl | omega) | exact VLe.cap rfl (by first | rfl | omega) | exact VLe.im rfl rfl | omega | (refine fun id k h => ?_; simp only [hget] at h ⊢; (repeat' (split at h)) <;> first | (cases h; done) | (simp (disch := omega) only [if_pos, if_neg]; exact h)))))
  · exact Nat.zero_le _
  · intro t ht K hK
    have hsl := sch_len b t
    have hcl : (uv (sch b t)).length = t := by rw [uv_len, hsl]
    have htk : (uv (sch b t)).take t = uv (sch b t) := List.take_of_length_le (by omega)
    by_cases hc : t < 64
    · have q1 : decide ((t : Int) < 64) = true := decide_eq_true (by omega)
      by_cases hc2 : t < 16
      · as_aux_lemma =>
          have q2 : decide ((t : Int) < 16) = true := decide_eq_true (by omega)
          have x0 : (4 * (t : Int)).toNat = 4 * t := by omega
          have x1 : (4 * (t : Int) + 4).toNat = 4 * t + 4 := by omega
          have x2 : 4 * t + 4 - 4 * t = 4 := by omega
          obtain ⟨k1, k2⟩ := l4_get b t (by omega)
          have g0 := k2 0 (by omega)
          have g1 := k2 1 (by omega)
          have g2 := k2 2 (by omega)
          have g3 := k2 3 (by omega)
          have c1 := rword_s k1 (fun x hx => hB8 x (List.mem_of_mem_drop (List.mem_of_mem_take hx)))
          have e4 : ((bw b).drop (4 * t)).take 4 = bw ((b.drop (4 * t)).take 4) := by unfold bw; rw [List.map_take, List.map_drop]
          have ex : schN b (sch b t) t = be4 (b.getD (4 * t) 0) (b.getD (4 * t + 1) 0) (b.getD (4 * t + 2) 0) (b.getD (4 * t + 3) 0) := by unfold schN; rw [if_pos hc2]
          rw [g0, g1, g2, g3, Nat.add_zero, ← ex] at c1
          have e : uv (sch b (t + 1)) = uv (sch b t) ++ [.sc (.int .u32 (schN b (sch b t) t))] := by rw [sch, uv_snoc]
          generalize schN b (sch b t) t = X at *
          generalize uv (sch b t) = C0 at *
          (repeat (first | refine DO.nil (by kernel_rfl) ?_ | (with_reducible first | apply oz1 | apply oz2 | apply oz3 | apply oz4 | apply oz5 | apply oz6 | apply oz7 | apply oz8 | apply oz9 | apply ozb | apply ozc | apply oze | apply ozf | apply ozg | apply ozh | apply ozi | apply ozj | apply ozk | refine ozd (by decide) ?_) | ((first | apply SO.call | apply DO.call); (iterate 3 (focus (simp (disch := omega) only [go_sem, ↓reduceIte, zn1, zn2, zn3, zn4, zn5, zn6, reduceCtorEq, zn7, zi1, zi2, if_pos, if_neg, q1, q2, x0, x1, x2, e4, gb, hcl, htk, List.getElem?_drop, Nat.mul_one, List.drop_zero] <;> rfl))); (first | apply SCall.ofX | apply DCall.ofX); (focus (first | assumption)); (focus (simp (disch := omega) only [go_sem, ↓reduceIte, zn1, zn2, zn3, zn4, zn5, zn6, reduceCtorEq, zn7, zi1, zi2, if_pos, if_neg, q1, q2, x0, x1, x2, e4, gb, hcl, htk, List.getElem?_drop, Nat.mul_one, List.drop_zero] <;> rfl))) | ((with_reducible first | apply SC.condB | apply SC.region | apply SO.run | apply DO.run); (focus (simp (disch := omega) only [go_sem, ↓reduceIte, zn1, zn2, zn3, zn4, zn5, zn6, reduceCtorEq, zn7, zi1, zi2, if_pos, if_neg, q1, q2, x0, x1, x2, e4, gb, hcl, htk, List.getElem?_drop, Nat.mul_one, List.drop_zero] <;> rfl)); (first | refine pickT ?_ | refine pickF ?_ | fail_if_success with_reducible refine pickA ?_)) | ((with_reducible refine SC.draw Tab.mixed ?_ ?_); (focus (first | rfl | simp (disch := omega) only [go_sem, ↓reduceIte, zn1, zn2, zn3, zn4, zn5, zn6, reduceCtorEq, zn7, zi1, zi2, if_pos, if_neg, q1, q2, x0, x1, x2, e4, gb, hcl, htk, List.getElem?_drop, Nat.mul_one, List.drop_zero]))) | (with_reducible apply SC.ops)))
          refine hK _ (t + 1) ?_ (by omega) (by omega)
          have hclo := uv_clo (sch b (t + 1))
          rw [e] at hclo ⊢
          refine Le.ren 0 2 hB (by omega) (by omega) (by omega) ?_ ?_
          · (repeat' (first | exact trivial | refine mapSl_cons (by simp (disch := omega) only [go_sem, ↓reduceIte, zn1, zn2, zn3, zn4, zn5, zn6, reduceCtorEq, zn7, zi1, zi2, if_pos, if_neg] <;> rfl) ?_ ?_ | exact VMap.junk _ | exact VMap.sc _ | exact VMap.clo rfl | exact VMap.sl rfl (by omega) | exact VMap.cap rfl (by omega) | exact VMap.pt rfl (by omega) | exact VMap.nil_sl _ _ _ | exact VMap.int (by first | rfl | omega | (dsimp only; omega))))
          · (repeat' (first | exact mapHp_nil | refine mapHp_cons (by simp (disch := omega) only [go_sem, ↓reduceIte, zn1, zn2, zn3, zn4, zn5, zn6, reduceCtorEq, zn7, zi1, zi2, if_pos, if_neg] <;> rfl) ?_ ?_ | exact BMap.clo (by first | rfl | assumption | exact wv_clo _ | exact imR_clo _ _ | exact nv_clo _) | refine BMap.list ?_ | exact mapL_nil | refine mapL_cons ?_ ?_ | exact VMap.junk _ | exact VMap.sc _ | exact VMap.clo rfl | exact VMap.sl rfl (by omega) | exact VMap.cap rfl (by omega) | exact VMap.pt rfl (by omega) | exact VMap.nil_sl _ _ _ | exact VMap.int (by first | rfl | omega | (dsimp only; omega))))
      · as_aux_lemma =>
          have q2 : decide ((t : Int) < 16) = false := decide_eq_false (by omega)
          have x0 : ((t : Int) - 16).toNat = t - 16 := by omega
          have x1 : ((t : Int) - 15).toNat = t - 15 := by omega
          have x2 : ((t : Int) - 7).toNat = t - 7 := by omega
          have x3 : ((t : Int) - 2).toNat = t - 2 := by omega
          have g0 := uv_get (l := sch b t) (i := t - 16) (by omega)
          have g1 := uv_get (l := sch b t) (i := t - 15) (by omega)
          have g2 := uv_get (l := sch b t) (i := t - 7) (by omega)
          have g3 := uv_get (l := sch b t) (i := t - 2) (by omega)
          have ex : schN b (sch b t) t = wP (wP (wP ((sch b t).getD (t - 16) 0) (rot2s 7 18 3 ((sch b t).getD (t - 15) 0))) ((sch b t).getD (t - 7) 0)) (rot2s 17 19 10 ((sch b t).getD (t - 2) 0)) := by unfold schN; rw [if_neg hc2]
          have e : uv (sch b (t + 1)) = uv (sch b t) ++ [.sc (.int .u32 (schN b (sch b t) t))] := by rw [sch, uv_snoc]
          rw [ex] at e
          unfold wP rot2s wX at e
          rw [show (2 : Int) ^ 3 = 8 from rfl, show (2 : Int) ^ 10 = 1024 from rfl] at e
          have c1 := rotr_s ((sch b t).getD (t - 15) 0) (show 7 < 32 by decide)
          have c2 := rotr_s ((sch b t).getD (t - 15) 0) (show 18 < 32 by decide)
          have c3 := rotr_s ((sch b t).getD (t - 2) 0) (show 17 < 32 by decide)
          have c4 := rotr_s ((sch b t).getD (t - 2) 0) (show 19 < 32 by decide)
          have n3 : min 3 32 = 3 := rfl
          have n10 : min 10 32 = 10 := rfl
          have f3 : ∀ x : Int, x.fdiv 8 = x / 8 := fun x => Int.fdiv_eq_ediv_of_nonneg _ (by omega)
          have f10 : ∀ x : Int, x.fdiv 1024 = x / 1024 := fun x => Int.fdiv_eq_ediv_of_nonneg _ (by omega)
          generalize (sch b t).getD (t - 16) 0 = w0 at *
          generalize (sch b t).getD (t - 15) 0 = w1 at *
          generalize (sch b t).getD (t - 7) 0 = w2 at *
          generalize (sch b t).getD (t - 2) 0 = w3 at *
          generalize uv (sch b t) = C0 at *
          (repeat (first | refine DO.nil (by kernel_rfl) ?_ | (with_reducible first | apply oz1 | apply oz2 | apply oz3 | apply oz4 | apply oz5 | apply oz6 | apply oz7 | apply oz8 | apply oz9 | apply ozb | apply ozc | apply oze | apply ozf | apply ozg | apply ozh | apply ozi | apply ozj | apply ozk | refine ozd (by decide) ?_) | ((first | apply SO.call | apply DO.call); (iterate 3 (focus (simp (disch := omega) only [go_sem, ↓reduceIte, zn1, zn2, zn3, zn4, zn5, zn6, reduceCtorEq, zn7, zi1, zi2, if_pos, if_neg, q1, q2, x0, x1, x2, x3, g0, g1, g2, g3, hcl, htk, List.getElem?_drop, Nat.mul_one, List.drop_zero, n3, n10, f3, f10] <;> rfl))); (first | apply SCall.ofX | apply DCall.ofX); (focus (first | assumption)); (focus (simp (disch := omega) only [go_sem, ↓reduceIte, zn1, zn2, zn3, zn4, zn5, zn6, reduceCtorEq, zn7, zi1, zi2, if_pos, if_neg, q1, q2, x0, x1, x2, x3, g0, g1, g2, g3, hcl, htk, List.getElem?_drop, Nat.mul_one, List.drop_zero, n3, n10, f3, f10] <;> rfl))) | ((with_reducible first | apply SC.condB | apply SC.region | apply SO.run | apply DO.run); (focus (simp (disch := omega) only [go_sem, ↓reduceIte, zn1, zn2, zn3, zn4, zn5, zn6, reduceCtorEq, zn7, zi1, zi2, if_pos, if_neg, q1, q2, x0, x1, x2, x3, g0, g1, g2, g3, hcl, htk, List.getElem?_drop, Nat.mul_one, List.drop_zero, n3, n10, f3, f10] <;> rfl)); (first | refine pickT ?_ | refine pickF ?_ | fail_if_success with_reducible refine pickA ?_)) | ((with_reducible refine SC.draw Tab.mixed ?_ ?_); (focus (first | rfl | simp (disch := omega) only [go_sem, ↓reduceIte, zn1, zn2, zn3, zn4, zn5, zn6, reduceCtorEq, zn7, zi1, zi2, if_pos, if_neg, q1, q2, x0, x1, x2, x3, g0, g1, g2, g3, hcl, htk, List.getElem?_drop, Nat.mul_one, List.drop_zero, n3, n10, f3, f10]))) | (with_reducible apply SC.ops)))
          refine hK _ (t + 1) ?_ (by omega) (by omega)
          have hclo := uv_clo (sch b (t + 1))
          rw [e] at hclo ⊢
          refine Le.ren 0 2 hB (by omega) (by omega) (by omega) ?_ ?_
          · (repeat' (first | exact trivial | refine mapSl_cons (by simp (disch := omega) only [go_sem, ↓reduceIte, zn1, zn2, zn3, zn4, zn5, zn6, reduceCtorEq, zn7, zi1, zi2, if_pos, if_neg] <;> rfl) ?_ ?_ | exact VMap.junk _ | exact VMap.sc _ | exact VMap.clo rfl | exact VMap.sl rfl (by omega) | exact VMap.cap rfl (by omega) | exact VMap.pt rfl (by omega) | exact VMap.nil_sl _ _ _ | exact VMap.int (by first | rfl | omega | (dsimp only; omega))))
          · (repeat' (first | exact mapHp_nil | refine mapHp_cons (by simp (disch := omega) only [go_sem, ↓reduceIte, zn1, zn2, zn3, zn4, zn5, zn6, reduceCtorEq, zn7, zi1, zi2, if_pos, if_neg] <;> rfl) ?_ ?_ | exact BMap.clo (by first | rfl | assumption | exact wv_clo _ | exact imR_clo _ _ | exact nv_clo _) | refine BMap.list ?_ | exact mapL_nil | refine mapL_cons ?_ ?_ | exact VMap.junk _ | exact VMap.sc _ | exact VMap.clo rfl | exact VMap.sl rfl (by omega) | exact VMap.cap rfl (by omega) | exact VMap.pt rfl (by omega) | exact VMap.nil_sl _ _ _ | exact VMap.int (by first | rfl | omega | (dsimp only; omega))))
    · have q1 : decide ((t : Int) < 64) = false := decide_eq_false (by omega)
      have ht64 : t = 64 := by omega
      subst ht64
      (repeat (first | refine DO.nil (by kernel_rfl) ?_ | (with_reducible first | apply oz1 | apply oz2 | apply oz3 | apply oz4 | apply oz5 | apply oz6 | apply oz7 | apply oz8 | apply oz9 | apply ozb | apply ozc | apply oze | apply ozf | apply ozg | apply ozh | apply ozi | apply ozj | apply ozk | refine ozd (by decide) ?_) | ((first | apply SO.call | apply DO.call); (iterate 3 (focus (simp (disch := omega) only [go_sem, ↓reduceIte, zn1, zn2, zn3, zn4, zn5, zn6, reduceCtorEq, zn7, zi1, zi2, if_pos, if_neg, q1, gs, gs2, gs3, List.drop_zero, Nat.mul_one] <;> rfl))); (first | apply SCall.ofX | apply DCall.ofX); (focus (first | assumption)); (focus (simp (disch := omega) only [go_sem, ↓reduceIte, zn1, zn2, zn3, zn4, zn5, zn6, reduceCtorEq, zn7, zi1, zi2, if_pos, if_neg, q1, gs, gs2, gs3, List.drop_zero, Nat.mul_one] <;> rfl))) | ((with_reducible first | apply SC.condB | apply SC.region | apply SO.run | apply DO.run); (focus (simp (disch := omega) only [go_sem, ↓reduceIte, zn1, zn2, zn3, zn4, zn5, zn6, reduceCtorEq, zn7, zi1, zi2, if_pos, if_neg, q1, gs, gs2, gs3, List.drop_zero, Nat.mul_one] <;> rfl)); (first | refine pickT ?_ | refine pickF ?_ | fail_if_success with_reducible refine pickA ?_)) | ((with_reducible refine SC.draw Tab.mixed ?_ ?_); (focus (first | rfl | simp (disch := omega) only [go_sem, ↓reduceIte, zn1, zn2, zn3, zn4, zn5, zn6, reduceCtorEq, zn7, zi1, zi2, if_pos, if_neg, q1, gs, gs2, gs3, List.drop_zero, Nat.mul_one]))) | (with_reducible apply SC.ops)))
      have hwl := sch_len b 64
      have hwcl : (uv (sch b 64)).length = 64 := by rw [uv_len]; exact hwl
      have hkl : KT.length = 64 := by rw [← hKT, uv_len]; rfl
      have eC : C = add8 s (rnds kT (sch b 64) s 64) := hC.symm
      have hwc := uv_clo (sch b 64)
      clear hK hsl hcl hC htk
      generalize sch b 64 = Wl at *
      have hHS2 : HS = [.sc (.int .u32 s.a), .sc (.int .u32 s.b), .sc (.int .u32 s.c), .sc (.int .u32 s.d), .sc (.int .u32 s.e), .sc (.int .u32 s.f), .sc (.int .u32 s.g), .sc (.int .u32 s.h)] := hHS.symm
      refine SC.loop (fun t : Nat => ⟨[(0, .im HS 8), (5, .im KT 64), (6, .sl 0 0 64 1 none), (12, .sl 1 0 8 1 none), (13, .sc (.int .i64 t))], [(1, ⟨57, [.sc (.int .u32 (rnds kT Wl s t).a), .sc (.int .u32 (rnds kT Wl s t).b), .sc (.int .u32 (rnds kT Wl s t).c), .sc (.int .u32 (rnds kT Wl s t).d), .sc (.int .u32 (rnds kT Wl s t).e), .sc (.int .u32 (rnds kT Wl s t).f), .sc (.int .u32 (rnds kT Wl s t).g), .sc (.int .u32 (rnds kT Wl s t).h)], false⟩), (0, ⟨57, uv Wl, false⟩)], 2, 224⟩)
        (fun t => t ≤ 64) (fun t => 64 - t) 0 ?_ ?_ ?_
      · rw [hHS2]
        refine Le.ren 1 2 hB (by omega) (by omega) (by omega) ?_ ?_
        · (repeat' (first | exact trivial | refine mapSl_cons (by simp (disch := omega) only [go_sem, ↓reduceIte, zn1, zn2, zn3, zn4, zn5, zn6, reduceCtorEq, zn7, zi1, zi2, if_pos, if_neg] <;> rfl) ?_ ?_ | exact VMap.junk _ | exact VMap.sc _ | exact VMap.clo rfl | exact VMap.sl rfl (by omega) | exact VMap.cap rfl (by omega) | exact VMap.pt rfl (by omega) | exact VMap.nil_sl _ _ _ | exact VMap.int (by first | rfl | omega | (dsimp only; omega))))
        · (repeat' (first | exact mapHp_nil | refine mapHp_cons (by simp (disch := omega) only [go_sem, ↓reduceIte, zn1, zn2, zn3, zn4, zn5, zn6, reduceCtorEq, zn7, zi1, zi2, if_pos, if_neg] <;> rfl) ?_ ?_ | exact BMap.clo (by first | rfl | assumption | exact wv_clo _ | exact imR_clo _ _ | exact nv_clo _) | refine BMap.list ?_ | exact mapL_nil | refine mapL_cons ?_ ?_ | exact VMap.junk _ | exact VMap.sc _ | exact VMap.clo rfl | exact VMap.sl rfl (by omega) | exact VMap.cap rfl (by omega) | exact VMap.pt rfl (by omega) | exact VMap.nil_sl _ _ _ | exact VMap.int (by first | rfl | omega | (dsimp only; omega))))
      · exact Nat.zero_le _
      · intro t ht K hK
        by_cases hc : t < 64
        · as_aux_lemma =>
            have q1 : decide ((t : Int) < 64) = true := decide_eq_true (by omega)
            have gw := uv_get (l := Wl) (i := t) (by omega)
            have gk := uv_get (l := kT) (i := t) (by show t < 64; exact hc)
            rw [hKT] at gk
            have e : rnds kT Wl s (t + 1) = rnd (rnds kT Wl s t) (kT.getD t 0) (Wl.getD t 0) := rfl
            have c1 := rotr_s (rnds kT Wl s t).e (show 6 < 32 by decide)
            have c2 := rotr_s (rnds kT Wl s t).e (show 11 < 32 by decide)
            have c3 := rotr_s (rnds kT Wl s t).e (show 25 < 32 by decide)
            have c4 := rotr_s (rnds kT Wl s t).a (show 2 < 32 by decide)
            have c5 := rotr_s (rnds kT Wl s t).a (show 13 < 32 by decide)
            have c6 := rotr_s (rnds kT Wl s t).a (show 22 < 32 by decide)
            have hK2 : ∀ s' : SS, _ → K s' := fun s' h => hK s' (t + 1) h (by omega) (by omega)
            rw [e] at hK2
            clear hK e
            generalize rnds kT Wl s t = r at *
            obtain ⟨ra, rb, rc, rd, re, rf, rg, rh⟩ := r
            generalize kT.getD t 0 = kt at *
            generalize Wl.getD t 0 = wt at *
            generalize uv Wl = WL at *
            unfold rnd tU tV chW majW wP wA wN wX rot3 wX at hK2
            simp only at hK2 c1 c2 c3 c4 c5 c6 ⊢
            (repeat (first | refine DO.nil (by kernel_rfl) ?_ | (with_reducible first | apply oz1 | apply oz2 | apply oz3 | apply oz4 | apply oz5 | apply oz6 | apply oz7 | apply oz8 | apply oz9 | apply ozb | apply ozc | apply oze | apply ozf | apply ozg | apply ozh | apply ozi | apply ozj | apply ozk | refine ozd (by decide) ?_) | ((first | apply SO.call | apply DO.call); (iterate 3 (focus (simp (disch := omega) only [go_sem, ↓reduceIte, zn1, zn2, zn3, zn4, zn5, zn6, reduceCtorEq, zn7, zi1, zi2, if_pos, if_neg, q1, gw, gk, hwcl, hkl, List.getElem?_drop] <;> rfl))); (first | apply SCall.ofX | apply DCall.ofX); (focus (first | assumption)); (focus (simp (disch := omega) only [go_sem, ↓reduceIte, zn1, zn2, zn3, zn4, zn5, zn6, reduceCtorEq, zn7, zi1, zi2, if_pos, if_neg, q1, gw, gk, hwcl, hkl, List.getElem?_drop] <;> rfl))) | ((with_reducible first | apply SC.condB | apply SC.region | apply SO.run | apply DO.run); (focus (simp (disch := omega) only [go_sem, ↓reduceIte, zn1, zn2, zn3, zn4, zn5, zn6, reduceCtorEq, zn7, zi1, zi2, if_pos, if_neg, q1, gw, gk, hwcl, hkl, List.getElem?_drop] <;> rfl)); (first | refine pickT ?_ | refine pickF ?_ | fail_if_success with_reducible refine pickA ?_)) | ((with_reducible refine SC.draw Tab.mixed ?_ ?_); (focus (first | rfl | simp (disch := omega) only [go_sem, ↓reduceIte, zn1, zn2, zn3, zn4, zn5, zn6, reduceCtorEq, zn7, zi1, zi2, if_pos, if_neg, q1, gw, gk, hwcl, hkl, List.getElem?_drop]))) | (with_reducible apply SC.ops)))
            refine hK2 _ ?_
            refine Le.ren 1 2 hB (by omega) (by omega) (by omega) ?_ ?_
            · (repeat' (first | exact trivial | refine mapSl_cons (by simp (disch := omega) only [go_sem, ↓reduceIte, zn1, zn2, zn3, zn4, zn5, zn6, reduceCtorEq, zn7, zi1, zi2, if_pos, if_neg] <;> rfl) ?_ ?_ | exact VMap.junk _ | exact VMap.sc _ | exact VMap.clo rfl | exact VMap.sl rfl (by omega) | exact VMap.cap rfl (by omega) | exact VMap.pt rfl (by omega) | exact VMap.nil_sl _ _ _ | exact VMap.int (by first | rfl | omega | (dsimp only; omega))))
            · (repeat' (first | exact mapHp_nil | refine mapHp_cons (by simp (disch := omega) only [go_sem, ↓reduceIte, zn1, zn2, zn3, zn4, zn5, zn6, reduceCtorEq, zn7, zi1, zi2, if_pos, if_neg] <;> rfl) ?_ ?_ | exact BMap.clo (by first | rfl | assumption | exact wv_clo _ | exact imR_clo _ _ | exact nv_clo _) | refine BMap.list ?_ | exact mapL_nil | refine mapL_cons ?_ ?_ | exact VMap.junk _ | exact VMap.sc _ | exact VMap.clo rfl | exact VMap.sl rfl (by omega) | exact VMap.cap rfl (by omega) | exact VMap.pt rfl (by omega) | exact VMap.nil_sl _ _ _ | exact VMap.int (by first | rfl | omega | (dsimp only; omega))))
        · have q1 : decide ((t : Int) < 64) = false := decide_eq_false (by omega)
          have ht64 : t = 64 := by omega
          subst ht64
          generalize rnds kT Wl s 64 = r at *
          (repeat (first | refine DO.nil (by kernel_rfl) ?_ | (with_reducible first | apply oz1 | apply oz2 | apply oz3 | apply oz4 | apply oz5 | apply oz6 | apply oz7 | apply oz8 | apply oz9 | apply ozb | apply ozc | apply oze | apply ozf | apply ozg | apply ozh | apply ozi | apply ozj | apply ozk | refine ozd (by decide) ?_) | ((first | apply SO.call | apply DO.call); (iterate 3 (focus (simp (disch := omega) only [go_sem, ↓reduceIte, zn1, zn2, zn3, zn4, zn5, zn6, reduceCtorEq, zn7, zi1, zi2, if_pos, if_neg, q1] <;> rfl))); (first | apply SCall.ofX | apply DCall.ofX); (focus (first | assumption)); (focus (simp (disch := omega) only [go_sem, ↓reduceIte, zn1, zn2, zn3, zn4, zn5, zn6, reduceCtorEq, zn7, zi1, zi2, if_pos, if_neg, q1] <;> rfl))) | ((with_reducible first | apply SC.condB | apply SC.region | apply SO.run | apply DO.run); (focus (simp (disch := omega) only [go_sem, ↓reduceIte, zn1, zn2, zn3, zn4, zn5, zn6, reduceCtorEq, zn7, zi1, zi2, if_pos, if_neg, q1] <;> rfl)); (first | refine pickT ?_ | refine pickF ?_ | fail_if_success with_reducible refine pickA ?_)) | ((with_reducible refine SC.draw Tab.mixed ?_ ?_); (focus (first | rfl | simp (disch := omega) only [go_sem, ↓reduceIte, zn1, zn2, zn3, zn4, zn5, zn6, reduceCtorEq, zn7, zi1, zi2, if_pos, if_neg, q1]))) | (with_reducible apply SC.ops)))
          clear hK hkl hwcl hwl
          refine SC.loop (fun t : Nat => ⟨[(0, .im HS 8), (12, .sl 1 0 8 1 none), (20, .sl 2 0 t 1 none), (21, .sc (.int .i64 t))], [(2, ⟨57, uv ((stL (add8 s r)).take t), false⟩), (1, ⟨57, uv (stL r), false⟩)], 3, 224⟩)
            (fun t => t ≤ 8) (fun t => 8 - t) 0 ?_ ?_ ?_
          · have e1 : uv (stL r) = [.sc (.int .u32 r.a), .sc (.int .u32 r.b), .sc (.int .u32 r.c), .sc (.int .u32 r.d), .sc (.int .u32 r.e), .sc (.int .u32 r.f), .sc (.int .u32 r.g), .sc (.int .u32 r.h)] := rfl
            rw [e1]
            (refine Le.slots ?_ ?_ ?_ <;> (repeat' (first | (exact fun _ _ h => h) | exact Nat.le_refl _ | exact leSl_nil | refine leSl_cons (by simp (disch := omega) only [go_sem, ↓reduceIte, zn1, zn2, zn3, zn4, zn5, zn6, reduceCtorEq, zn7, zi1, zi2, if_pos, if_neg] <;> rfl) ?_ ?_ | exact VLe.junk _ | exact VLe.refl rfl | exact VLe.nil_sl _ _ _ | exact VLe.int (by first | rfl | omega | (dsimp only; omega)) | exact VLe.bool rfl | exact VLe.sl rfl (by first | rfl | omega) | exact VLe.cap rfl (by first | rfl | omega) | exact VLe.im rfl rfl | omega | (refine fun id k h => ?_; simp only [hget] at h ⊢; (repeat' (split at h)) <;> first | (cases h; done) | (simp (disch := omega) only [if_pos, if_neg]; exact h)))))
          · exact Nat.zero_le _
          · intro t ht K hK
            by_cases hc : t < 8
            · as_aux_lemma =>
                have q1 : decide ((t : Int) < 8) = true := decide_eq_true (by omega)
                obtain ⟨g1, g2⟩ := addR_all s r t hc
                have g3 := uv_get (l := stL s) (i := t) (by show t < 8; exact hc)
                have g4 := uv_get (l := stL r) (i := t) (by show t < 8; exact hc)
                have g5 : (uv (stL r)).length = 8 := rfl
                have g7 := uv_clo (stL r)
                have hclo := uv_clo ((stL (add8 s r)).take (t + 1))
                rw [← g1] at hclo
                have gtk : (uv ((stL (add8 s r)).take t)).take t = uv ((stL (add8 s r)).take t) := List.take_of_length_le (by omega)
                rw [hHS] at g3
                generalize (stL s).getD t 0 = x at *
                generalize (stL r).getD t 0 = y at *
                have hK2 : ∀ s' : SS, _ → K s' := fun s' h => hK s' (t + 1) h (by omega) (by omega)
                rw [← g1] at hK2
                generalize uv ((stL (add8 s r)).take t) = R2 at *
                generalize uv (stL r) = R3 at *
                (repeat (first | refine DO.nil (by kernel_rfl) ?_ | (with_reducible first | apply oz1 | apply oz2 | apply oz3 | apply oz4 | apply oz5 | apply oz6 | apply oz7 | apply oz8 | apply oz9 | apply ozb | apply ozc | apply oze | apply ozf | apply ozg | apply ozh | apply ozi | apply ozj | apply ozk | refine ozd (by decide) ?_) | ((first | apply SO.call | apply DO.call); (iterate 3 (focus (simp (disch := omega) only [go_sem, ↓reduceIte, zn1, zn2, zn3, zn4, zn5, zn6, reduceCtorEq, zn7, zi1, zi2, if_pos, if_neg, q1, g2, g3, g4, g5, gs, gtk, List.getElem?_drop, Nat.mul_one, List.drop_zero] <;> rfl))); (first | apply SCall.ofX | apply DCall.ofX); (focus (first | assumption)); (focus (simp (disch := omega) only [go_sem, ↓reduceIte, zn1, zn2, zn3, zn4, zn5, zn6, reduceCtorEq, zn7, zi1, zi2, if_pos, if_neg, q1, g2, g3, g4, g5, gs, gtk, List.getElem?_drop, Nat.mul_one, List.drop_zero] <;> rfl))) | ((with_reducible first | apply SC.condB | apply SC.region | apply SO.run | apply DO.run); (focus (simp (disch := omega) only [go_sem, ↓reduceIte, zn1, zn2, zn3, zn4, zn5, zn6, reduceCtorEq, zn7, zi1, zi2, if_pos, if_neg, q1, g2, g3, g4, g5, gs, gtk, List.getElem?_drop, Nat.mul_one, List.drop_zero] <;> rfl)); (first | refine pickT ?_ | refine pickF ?_ | fail_if_success with_reducible refine pickA ?_)) | ((with_reducible refine SC.draw Tab.mixed ?_ ?_); (focus (first | rfl | simp (disch := omega) only [go_sem, ↓reduceIte, zn1, zn2, zn3, zn4, zn5, zn6, reduceCtorEq, zn7, zi1, zi2, if_pos, if_neg, q1, g2, g3, g4, g5, gs, gtk, List.getElem?_drop, Nat.mul_one, List.drop_zero]))) | (with_reducible apply SC.ops)))
                refine hK2 _ ?_
                refine Le.ren 2 4 hB (by omega) (by omega) (by omega) ?_ ?_
                · (repeat' (first | exact trivial | refine mapSl_cons (by simp (disch := omega) only [go_sem, ↓reduceIte, zn1, zn2, zn3, zn4, zn5, zn6, reduceCtorEq, zn7, zi1, zi2, if_pos, if_neg] <;> rfl) ?_ ?_ | exact VMap.junk _ | exact VMap.sc _ | exact VMap.clo rfl | exact VMap.sl rfl (by omega) | exact VMap.cap rfl (by omega) | exact VMap.pt rfl (by omega) | exact VMap.nil_sl _ _ _ | exact VMap.int (by first | rfl | omega | (dsimp only; omega))))
                · (repeat' (first | exact mapHp_nil | refine mapHp_cons (by simp (disch := omega) only [go_sem, ↓reduceIte, zn1, zn2, zn3, zn4, zn5, zn6, reduceCtorEq, zn7, zi1, zi2, if_pos, if_neg] <;> rfl) ?_ ?_ | exact BMap.clo (by first | rfl | assumption | exact wv_clo _ | exact imR_clo _ _ | exact nv_clo _) | refine BMap.list ?_ | exact mapL_nil | refine mapL_cons ?_ ?_ | exact VMap.junk _ | exact VMap.sc _ | exact VMap.clo rfl | exact VMap.sl rfl (by omega) | exact VMap.cap rfl (by omega) | exact VMap.pt rfl (by omega) | exact VMap.nil_sl _ _ _ | exact VMap.int (by first | rfl | omega | (dsimp only; omega))))
            · have q1 : decide ((t : Int) < 8) = false := decide_eq_false (by omega)
              have ht8 : t = 8 := by omega
              subst ht8
              have e3 : uv ((stL (add8 s r)).take 8) = uv (stL (add8 s r)) := rfl
              rw [e3, eC]
              clear e3 eC
              generalize add8 s r = q
              have e4 : uv (stL q) = [.sc (.int .u32 q.a), .sc (.int .u32 q.b), .sc (.int .u32 q.c), .sc (.int .u32 q.d), .sc (.int .u32 q.e), .sc (.int .u32 q.f), .sc (.int .u32 q.g), .sc (.int .u32 q.h)] := rfl
              rw [e4]
              (repeat (first | refine DO.nil (by kernel_rfl) ?_ | (with_reducible first | apply oz1 | apply oz2 | apply oz3 | apply oz4 | apply oz5 | apply oz6 | apply oz7 | apply oz8 | apply oz9 | apply ozb | apply ozc | apply oze | apply ozf | apply ozg | apply ozh | apply ozi | apply ozj | apply ozk | refine ozd (by decide) ?_) | ((first | apply SO.call | apply DO.call); (iterate 3 (focus (simp (disch := omega) only [go_sem, ↓reduceIte, zn1, zn2, zn3, zn4, zn5, zn6, reduceCtorEq, zn7, zi1, zi2, if_pos, if_neg, q1] <;> rfl))); (first | apply SCall.ofX | apply DCall.ofX); (focus (first | assumption)); (focus (simp (disch := omega) only [go_sem, ↓reduceIte, zn1, zn2, zn3, zn4, zn5, zn6, reduceCtorEq, zn7, zi1, zi2, if_pos, if_neg, q1] <;> rfl))) | ((with_reducible first | apply SC.condB | apply SC.region | apply SO.run | apply DO.run); (focus (simp (disch := omega) only [go_sem, ↓reduceIte, zn1, zn2, zn3, zn4, zn5, zn6, reduceCtorEq, zn7, zi1, zi2, if_pos, if_neg, q1] <;> rfl)); (first | refine pickT ?_ | refine pickF ?_ | fail_if_success with_reducible refine pickA ?_)) | ((with_reducible refine SC.draw Tab.mixed ?_ ?_); (focus (first | rfl | simp (disch := omega) only [go_sem, ↓reduceIte, zn1, zn2, zn3, zn4, zn5, zn6, reduceCtorEq, zn7, zi1, zi2, if_pos, if_neg, q1]))) | (with_reducible apply SC.ops)))
              exact retQ_ret Tryd.results24 (by simp (disch := omega) only [go_sem, ↓reduceIte, zn1, zn2, zn3, zn4, zn5, zn6, reduceCtorEq, zn7, zi1, zi2, if_pos, if_neg] <;> rfl) (by simp (disch := omega) only [go_sem, ↓reduceIte, zn1, zn2, zn3, zn4, zn5, zn6, reduceCtorEq, zn7, zi1, zi2, if_pos, if_neg] <;> rfl) rfl
end Go.Proofs.YtpbnhioelmgaiaaDoor
namespace Go.Proofs.YtpbnhioelmgaiaaDoor
open Go.RowKit
def nkb (n : Int) (k : Nat) : List Int := (n8b n).take k
theorem n8b_all (n : Int) (h0 : 0 ≤ n) (h1 : n < 18446744073709551616) : ∀ k, k < 8 → bw (nkb n k) ++ [.sc (.int .u8 (n / 2 ^ (56 - 8 * k) % 256))] = bw (nkb n (k + 1)) ∧ (nkb n k).length = k := by
  have key : ∀ x : Int, 0 ≤ x → x < 18446744073709551616 → n8b x = [x / 2 ^ 56 % 256, x / 2 ^ 48 % 256, x / 2 ^ 40 % 256, x / 2 ^ 32 % 256, x / 2 ^ 24 % 256, x / 2 ^ 16 % 256, x / 2 ^ 8 % 256, x / 2 ^ 0 % 256] := by
    intro x hx hx2
    simp only [n8b, w4, List.cons_append, List.nil_append, List.cons.injEq, and_true, zi2]
    refine ⟨?_, ?_, ?_, ?_, ?_, ?_, ?_, ?_⟩ <;> first | trivial | omega
  intro k hk
  unfold nkb
  rw [key n h0 h1]
  match k, hk with
  | 0, _ => exact ⟨rfl, rfl⟩
  | 1, _ => exact ⟨rfl, rfl⟩
  | 2, _ => exact ⟨rfl, rfl⟩
  | 3, _ => exact ⟨rfl, rfl⟩
  | 4, _ => exact ⟨rfl, rfl⟩
  | 5, _ => exact ⟨rfl, rfl⟩
  | 6, _ => exact ⟨rfl, rfl⟩
  | 7, _ => exact ⟨rfl, rfl⟩
set_option maxHeartbeats 4000000 in
theorem rnum_q {o nx : Nat} {cap : Option Nat} {l : List Int} (x : Int) (ho : o < nx) (hn2 : l.length ≤ 900000000) (hx : 0 ≤ x) (hx2 : x < 18446744073709551616) : InlQ Tryd.prog 23 [.sl o 0 l.length 1 cap, .sc (.int .u64 x)] [(o, ⟨5, bw l, false⟩)] nx (fun y hp' nx' => ∃ q, q < nx' ∧ (q = o ∨ nx ≤ q) ∧ nx ≤ nx' ∧ y = .sl q 0 (l.length + 8) 1 none ∧ hp' = [(q, ⟨5, bw (l ++ n8b x), false⟩)]) := by
  refine InlQ.run Tryd.func23 rfl Tryd.ntmps23 (by simp) (by simp (disch := omega) only [go_sem, ↓reduceIte, zn1, zn2, zn3, zn4, zn5, zn6, reduceCtorEq, zn7, zi1, zi2, if_pos, if_neg]; rfl) fun B hB => ?_
  (repeat (first | refine DO.nil (by kernel_rfl) ?_ | (with_reducible first | apply oz1 | apply oz2 | apply oz3 | apply oz4 | apply oz5 | apply oz6 | apply oz7 | apply oz8 | apply oz9 | apply ozb | apply ozc | apply oze | apply ozf | apply ozg | apply ozh | apply ozi | apply ozj | apply ozk | refine ozd (by decide) ?_) | ((first | apply SO.call | apply DO.call); (iterate 3 (focus (simp (disch := omega) only [go_sem, ↓reduceIte, zn1, zn2, zn3, zn4, zn5, zn6, reduceCtorEq, zn7, zi1, zi2, if_pos, if_neg] <;> rfl))); (first | apply SCall.ofX | apply DCall.ofX); (focus (first | assumption)); (focus (simp (disch := omega) only [go_sem, ↓reduceIte, zn1, zn2, zn3, zn4, zn5, zn6, reduceCtorEq, zn7, zi1, zi2, if_pos, if_neg] <;> rfl))) | ((with_reducible first | apply SC.condB | apply SC.region | apply SO.run | apply DO.run); (focus (simp (disch := omega) only [go_sem, ↓reduceIte, zn1, zn2, zn3, zn4, zn5, zn6, reduceCtorEq, zn7, zi1, zi2, if_pos, if_neg] <;> rfl)); (first | refine pickT ?_ | refine pickF ?_ | fail_if_success with_reducible refine pickA ?_)) | ((with_reducible refine SC.draw Tab.mixed ?_ ?_); (focus (first | rfl | simp (disch := omega) only [go_sem, ↓reduceIte, zn1, zn2, zn3, zn4, zn5, zn6, reduceCtorEq, zn7, zi1, zi2, if_pos, if_neg]))) | (with_reducible apply SC.ops)))
  refine SC.loop (fun z : Nat × Nat × Nat => ⟨[(0, .sl z.2.1 0 (l.length + z.1) 1 none), (1, .sc (.int .u64 x)), (5, .sc (.int .i64 (56 - 8 * (z.1 : Int))))], [(z.2.1, ⟨5, bw (l ++ nkb x z.1), false⟩)], z.2.2, 18⟩)
    (fun z => z.1 ≤ 8 ∧ (z.2.1 = o ∨ nx ≤ z.2.1) ∧ z.2.1 < z.2.2 ∧ nx ≤ z.2.2) (fun z => 8 - z.1) (0, o, nx) ?_ ?_ ?_
  · have e : bw (l ++ nkb x 0) = bw l := by show bw (l ++ []) = _; rw [List.append_nil]
    simp only [e]
    (refine Le.slots ?_ ?_ ?_ <;> (repeat' (first | (exact fun _ _ h => h) | exact Nat.le_refl _ | exact leSl_nil | refine leSl_cons (by simp (disch := omega) only [go_sem, ↓reduceIte, zn1, zn2, zn3, zn4, zn5, zn6, reduceCtorEq, zn7, zi1, zi2, if_pos, if_neg] <;> rfl) ?_ ?_ | exact VLe.junk _ | exact VLe.refl rfl | exact VLe.nil_sl _ _ _ | exact VLe.int (by first | rfl | omega | (dsimp only; omega)) | exact VLe.bool rfl | exact VLe.sl rfl (by first | rfl | omega) | exact VLe.cap rfl (by first | rfl | omega) | exact VLe.im rfl rfl | omega | (refine fun id k h => ?_; simp only [hget] at h ⊢; (repeat' (split at h)) <;> first | (cases h; done) | (simp (disch := omega) only [if_pos, if_neg]; exact h)))))
  · exact ⟨Nat.zero_le _, .inl rfl, ho, Nat.le_refl _⟩
  · rintro ⟨k, q, m⟩ ⟨hk, hq1, hq2, hq3⟩ K hK
    simp only at hk hq1 hq2 hq3 ⊢
    by_cases hc : k < 8
    · obtain ⟨g1, g2⟩ := n8b_all x hx hx2 k hc
      have q1 : decide ((0 : Int) ≤ 56 - 8 * (k : Int)) = true := decide_eq_true (by omega)
      have e1 : (56 - 8 * (k : Int)).toNat = 56 - 8 * k := by omega
      have e2 : min (56 - 8 * k) 64 = 56 - 8 * k := by omega
      have e3 : x.fdiv (2 ^ (56 - 8 * k)) = x / 2 ^ (56 - 8 * k) := Int.fdiv_eq_ediv_of_nonneg _ (Int.le_of_lt (Int.pow_pos (by omega)))
      have gl : (bw (l ++ nkb x k)).length = l.length + k := by rw [bw_len, List.length_append, g2]
      have gt : (bw (l ++ nkb x k)).take (l.length + k) = bw (l ++ nkb x k) := List.take_of_length_le (by omega)
      have e4 : bw (l ++ nkb x (k + 1)) = bw (l ++ nkb x k) ++ [.sc (.int .u8 (x / 2 ^ (56 - 8 * k) % 256))] := by rw [bw_app, bw_app, ← g1, List.append_assoc]
      generalize x / 2 ^ (56 - 8 * k) = y at *
      (repeat (first | refine DO.nil (by kernel_rfl) ?_ | (with_reducible first | apply oz1 | apply oz2 | apply oz3 | apply oz4 | apply oz5 | apply oz6 | apply oz7 | apply oz8 | apply oz9 | apply ozb | apply ozc | apply oze | apply ozf | apply ozg | apply ozh | apply ozi | apply ozj | apply ozk | refine ozd (by decide) ?_) | ((first | apply SO.call | apply DO.call); (iterate 3 (focus (simp (disch := omega) only [go_sem, ↓reduceIte, zn1, zn2, zn3, zn4, zn5, zn6, reduceCtorEq, zn7, zi1, zi2, if_pos, if_neg, q1, e1, e2, e3, gl, gt, reps_one, Nat.mul_one, Nat.one_mul, List.drop_zero] <;> rfl))); (first | apply SCall.ofX | apply DCall.ofX); (focus (first | assumption)); (focus (simp (disch := omega) only [go_sem, ↓reduceIte, zn1, zn2, zn3, zn4, zn5, zn6, reduceCtorEq, zn7, zi1, zi2, if_pos, if_neg, q1, e1, e2, e3, gl, gt, reps_one, Nat.mul_one, Nat.one_mul, List.drop_zero] <;> rfl))) | ((with_reducible first | apply SC.condB | apply SC.region | apply SO.run | apply DO.run); (focus (simp (disch := omega) only [go_sem, ↓reduceIte, zn1, zn2, zn3, zn4, zn5, zn6, reduceCtorEq, zn7, zi1, zi2, if_pos, if_neg, q1, e1, e2, e3, gl, gt, reps_one, Nat.mul_one, Nat.one_mul, List.drop_zero] <;> rfl)); (first | refine pickT ?_ | refine pickF ?_ | fail_if_success with_reducible refine pickA ?_)) | ((with_reducible refine SC.draw Tab.mixed ?_ ?_); (focus (first | rfl | simp (disch := omega) only [go_sem, ↓reduceIte, zn1, zn2, zn3, zn4, zn5, zn6, reduceCtorEq, zn7, zi1, zi2, if_pos, if_neg, q1, e1, e2, e3, gl, gt, reps_one, Nat.mul_one, Nat.one_mul, List.drop_zero]))) | (with_reducible apply SC.ops)))
      refine hK _ (k + 1, m + 1, m + 2) ?_ ⟨by simp only; omega, by simp only; omega, by simp only; omega, by simp only; omega⟩ (by simp only; omega)
      simp only [e4]
      (refine Le.slots ?_ ?_ ?_ <;> (repeat' (first | (exact fun _ _ h => h) | exact Nat.le_refl _ | exact leSl_nil | refine leSl_cons (by simp (disch := omega) only [go_sem, ↓reduceIte, zn1, zn2, zn3, zn4, zn5, zn6, reduceCtorEq, zn7, zi1, zi2, if_pos, if_neg] <;> rfl) ?_ ?_ | exact VLe.junk _ | exact VLe.refl rfl | exact VLe.nil_sl _ _ _ | exact VLe.int (by first | rfl | omega | (dsimp only; omega)) | exact VLe.bool rfl | exact VLe.sl rfl (by first | rfl | omega) | exact VLe.cap rfl (by first | rfl | omega) | exact VLe.im rfl rfl | omega | (refine fun id k h => ?_; simp only [hget] at h ⊢; (repeat' (split at h)) <;> first | (cases h; done) | (simp (disch := omega) only [if_pos, if_neg]; exact h)))))
    · have hk8 : k = 8 := by omega
      subst hk8
      have q1 : decide ((0 : Int) ≤ 56 - 8 * ((8 : Nat) : Int)) = false := rfl
      (repeat (first | refine DO.nil (by kernel_rfl) ?_ | (with_reducible first | apply oz1 | apply oz2 | apply oz3 | apply oz4 | apply oz5 | apply oz6 | apply oz7 | apply oz8 | apply oz9 | apply ozb | apply ozc | apply oze | apply ozf | apply ozg | apply ozh | apply ozi | apply ozj | apply ozk | refine ozd (by decide) ?_) | ((first | apply SO.call | apply DO.call); (iterate 3 (focus (simp (disch := omega) only [go_sem, ↓reduceIte, zn1, zn2, zn3, zn4, zn5, zn6, reduceCtorEq, zn7, zi1, zi2, if_pos, if_neg, q1] <;> rfl))); (first | apply SCall.ofX | apply DCall.ofX); (focus (first | assumption)); (focus (simp (disch := omega) only [go_sem, ↓reduceIte, zn1, zn2, zn3, zn4, zn5, zn6, reduceCtorEq, zn7, zi1, zi2, if_pos, if_neg, q1] <;> rfl))) | ((with_reducible first | apply SC.condB | apply SC.region | apply SO.run | apply DO.run); (focus (simp (disch := omega) only [go_sem, ↓reduceIte, zn1, zn2, zn3, zn4, zn5, zn6, reduceCtorEq, zn7, zi1, zi2, if_pos, if_neg, q1] <;> rfl)); (first | refine pickT ?_ | refine pickF ?_ | fail_if_success with_reducible refine pickA ?_)) | ((with_reducible refine SC.draw Tab.mixed ?_ ?_); (focus (first | rfl | simp (disch := omega) only [go_sem, ↓reduceIte, zn1, zn2, zn3, zn4, zn5, zn6, reduceCtorEq, zn7, zi1, zi2, if_pos, if_neg, q1]))) | (with_reducible apply SC.ops)))
      refine retIQ_ret (.sl q 0 (l.length + 8) 1 none) [(q, ⟨5, bw (l ++ n8b x), false⟩)] m Tryd.results23 (by simp (disch := omega) only [go_sem, ↓reduceIte, zn1, zn2, zn3, zn4, zn5, zn6, reduceCtorEq, zn7, zi1, zi2, if_pos, if_neg]; rfl) ⟨q, hq2, hq1, hq3, rfl, rfl⟩ ?_
      (refine Le.slots ?_ ?_ ?_ <;> (repeat' (first | (exact fun _ _ h => h) | exact Nat.le_refl _ | exact leSl_nil | refine leSl_cons (by simp (disch := omega) only [go_sem, ↓reduceIte, zn1, zn2, zn3, zn4, zn5, zn6, reduceCtorEq, zn7, zi1, zi2, if_pos, if_neg] <;> rfl) ?_ ?_ | exact VLe.junk _ | exact VLe.refl rfl | exact VLe.nil_sl _ _ _ | exact VLe.int (by first | rfl | omega | (dsimp only; omega)) | exact VLe.bool rfl | exact VLe.sl rfl (by first | rfl | omega) | exact VLe.cap rfl (by first | rfl | omega) | exact VLe.im rfl rfl | omega | (refine fun id k h => ?_; simp only [hget] at h ⊢; (repeat' (split at h)) <;> first | (cases h; done) | (simp (disch := omega) only [if_pos, if_neg]; exact h)))))
end Go.Proofs.YtpbnhioelmgaiaaDoor
namespace Go.Proofs.YtpbnhioelmgaiaaDoor
open Go.RowKit
theorem digR_all (s : St8) : ∀ k r, k < 8 → r < 4 → (digL s).getD (4 * k + r) 0 = (stL s).getD k 0 / 2 ^ (24 - 8 * r) % 256 := by
  intro k r hk hr
  match r, hr with
  | 0, _ => match k, hk with
    | 0, _ | 1, _ | 2, _ | 3, _ | 4, _ | 5, _ | 6, _ | 7, _ => rfl
  | 1, _ => match k, hk with
    | 0, _ | 1, _ | 2, _ | 3, _ | 4, _ | 5, _ | 6, _ | 7, _ => rfl
  | 2, _ => match k, hk with
    | 0, _ | 1, _ | 2, _ | 3, _ | 4, _ | 5, _ | 6, _ | 7, _ => rfl
  | 3, _ => match k, hk with
    | 0, _ | 1, _ | 2, _ | 3, _ | 4, _ | 5, _ | 6, _ | 7, _ => simp [digL, stL, w4]
def digR (s : St8) (t : Nat) : List Int := (digL s).take t ++ List.replicate (32 - t) 0
theorem digR_len (s : St8) {t : Nat} (ht : t ≤ 32) : (bw (digR s t)).length = 32 := by
  unfold digR; rw [bw_len, List.length_append, List.length_take, digL_len, List.length_replicate]; omega
theorem digR_set (s : St8) {t : Nat} (ht : t < 32) : setAll (bw (digR s t)) t [.sc (.int .u8 ((digL s).getD t 0))] = bw (digR s (t + 1)) := by
  have hl : (bw ((digL s).take t)).length = t := by rw [bw_len, List.length_take, digL_len]; omega
  have h := setAll_at (.sc (.int .u8 0)) [.sc (.int .u8 ((digL s).getD t 0))] (bw ((digL s).take t)) (32 - (t + 1))
  rw [hl] at h
  have e1 : bw (digR s t) = bw ((digL s).take t) ++ List.replicate ([V.sc (.int .u8 ((digL s).getD t 0))].length + (32 - (t + 1))) (.sc (.int .u8 0)) := by
    have e : [V.sc (.int .u8 ((digL s).getD t 0))].length + (32 - (t + 1)) = 32 - t := by show 1 + _ = _; omega
    rw [e]; unfold digR; rw [bw_app]; unfold bw; rw [List.map_replicate]
  have e2 : (digL s).take (t + 1) = (digL s).take t ++ [(digL s).getD t 0] := by
    rw [List.take_add_one, getD_some (d := 0) (by rw [digL_len]; exact ht)]; rfl
  rw [e1, h]
  unfold digR
  rw [e2, bw_app, bw_app, List.append_assoc]
  unfold bw; rw [List.map_replicate]; rfl
theorem digR_32 (s : St8) : digR s 32 = digL s := by
  unfold digR
  rw [List.take_of_length_le (by rw [digL_len]; omega)]; exact List.append_nil _
set_option maxHeartbeats 16000000 in
set_option maxRecDepth 8000 in
theorem rsum_s {b : List Int} (hl : b.length ≤ 1000000) (hu : U8s b) : Spec Tryd.prog 8 [.im (bw b) b.length] (.ag (bw (sumL b))) := by
  generalize hD : sumL b = D
  have gb := bw_len b
  have gone := bw_one b
  have gcb := bw_clo b
  have gtk : (bw b).take b.length = bw b := List.take_of_length_le (by omega)
  refine Spec.run Tryd.func8 rfl Tryd.ntmps8 (by simp) (by simp (disch := omega) only [go_sem, ↓reduceIte, zn1, zn2, zn3, zn4, zn5, zn6, reduceCtorEq, zn7, zi1, zi2, if_pos, if_neg]; rfl) fun B hB => ?_
  (repeat (first | (first | refine DO.nilC (by kernel_rfl) ?_ | refine DO.nil (by kernel_rfl) ?_) | (with_reducible first | apply oz1 | apply oz2 | apply oz3 | apply oz4 | apply oz5 | apply oz6 | apply oz7 | apply oz8 | apply oz9 | apply ozb | apply ozc | apply oze | apply ozf | apply ozg | apply ozh | apply ozi | apply ozj | apply ozk | refine ozd (by decide) ?_) | ((first | apply SO.call | apply DO.call); (iterate 3 (focus (simp (disch := omega) only [go_sem, ↓reduceIte, zn1, zn2, zn3, zn4, zn5, zn6, reduceCtorEq, zn7, zi1, zi2, if_pos, if_neg, gb, gone, gtk, List.drop_zero, Nat.mul_one, List.nil_append, Nat.zero_add] <;> rfl))); (first | apply SCall.ofX | apply DCall.ofX); (focus (first | assumption)); (focus (simp (disch := omega) only [go_sem, ↓reduceIte, zn1, zn2, zn3, zn4, zn5, zn6, reduceCtorEq, zn7, zi1, zi2, if_pos, if_neg, gb, gone, gtk, List.drop_zero, Nat.mul_one, List.nil_append, Nat.zero_add] <;> rfl))) | ((with_reducible first | apply SC.condB | apply SC.region | apply SO.run | apply DO.run); (focus (simp (disch := omega) only [go_sem, ↓reduceIte, zn1, zn2, zn3, zn4, zn5, zn6, reduceCtorEq, zn7, zi1, zi2, if_pos, if_neg, gb, gone, gtk, List.drop_zero, Nat.mul_one, List.nil_append, Nat.zero_add] <;> rfl)); (first | refine pickT ?_ | refine pickF ?_ | fail_if_success with_reducible refine pickA ?_)) | ((with_reducible refine SC.draw Tab.mixed ?_ ?_); (focus (first | rfl | simp (disch := omega) only [go_sem, ↓reduceIte, zn1, zn2, zn3, zn4, zn5, zn6, reduceCtorEq, zn7, zi1, zi2, if_pos, if_neg, gb, gone, gtk, List.drop_zero, Nat.mul_one, List.nil_append, Nat.zero_add]))) | (with_reducible apply SC.ops)))
  refine SC.loop (fun k : Nat => ⟨[(0, .im (bw b) b.length), (2, .pt 0 0), (3, .sl 1 0 (b.length + 1 + k) 1 none)], [(0, ⟨25, bw (List.replicate 32 0), false⟩), (1, ⟨5, bw (b ++ [128] ++ List.replicate k 0), false⟩)], 2, 60⟩)
    (fun k => k ≤ padZ b.length) (fun k => padZ b.length - k) 0 ?_ ?_ ?_
  · have e : bw (b ++ [128] ++ List.replicate 0 0) = bw b ++ [.sc (.int .u8 128)] := by rw [List.replicate_zero, List.append_nil, bw_app]; rfl
    have hclo := bw_clo (b ++ [128] ++ List.replicate 0 0)
    rw [e] at hclo
    simp only [e]
    refine Le.ren 1 4 hB (by omega) (by omega) (by omega) ?_ ?_
    · (repeat' (first | exact trivial | refine mapSl_cons (by simp (disch := omega) only [go_sem, ↓reduceIte, zn1, zn2, zn3, zn4, zn5, zn6, reduceCtorEq, zn7, zi1, zi2, if_pos, if_neg] <;> rfl) ?_ ?_ | exact VMap.junk _ | exact VMap.sc _ | exact VMap.clo rfl | exact VMap.sl rfl (by omega) | exact VMap.cap rfl (by omega) | exact VMap.pt rfl (by omega) | exact VMap.nil_sl _ _ _ | exact VMap.int (by first | rfl | omega | (dsimp only; omega))))
    · (repeat' (first | exact mapHp_nil | refine mapHp_cons (by simp (disch := omega) only [go_sem, ↓reduceIte, zn1, zn2, zn3, zn4, zn5, zn6, reduceCtorEq, zn7, zi1, zi2, if_pos, if_neg] <;> rfl) ?_ ?_ | exact BMap.clo (by first | rfl | assumption | exact wv_clo _ | exact imR_clo _ _ | exact nv_clo _) | refine BMap.list ?_ | exact mapL_nil | refine mapL_cons ?_ ?_ | exact VMap.junk _ | exact VMap.sc _ | exact VMap.clo rfl | exact VMap.sl rfl (by omega) | exact VMap.cap rfl (by omega) | exact VMap.pt rfl (by omega) | exact VMap.nil_sl _ _ _ | exact VMap.int (by first | rfl | omega | (dsimp only; omega))))
  · exact Nat.zero_le _
  · intro k hk K hK
    have gl : (bw (b ++ [128] ++ List.replicate k 0)).length = b.length + 1 + k := by rw [bw_len, List.length_append, List.length_append, List.length_replicate]; rfl
    have gt : (bw (b ++ [128] ++ List.replicate k 0)).take (b.length + 1 + k) = bw (b ++ [128] ++ List.replicate k 0) := List.take_of_length_le (by omega)
    have hpz : padZ b.length < 64 := by unfold padZ; omega
    by_cases hc : k < padZ b.length
    · as_aux_lemma =>
        have hne := padZ_lt hc
        have q1 : ((((b.length + 1 + k : Nat) : Int) % 64) != 56) = true := by rw [bne_iff_ne]; omega
        have e : bw (b ++ [128] ++ List.replicate (k + 1) 0) = bw (b ++ [128] ++ List.replicate k 0) ++ [.sc (.int .u8 0)] := by
          rw [List.replicate_succ', ← List.append_assoc, bw_app]; rfl
        have hclo := bw_clo (b ++ [128] ++ List.replicate (k + 1) 0)
        rw [e] at hclo
        (repeat (first | (first | refine DO.nilC (by kernel_rfl) ?_ | refine DO.nil (by kernel_rfl) ?_) | (with_reducible first | apply oz1 | apply oz2 | apply oz3 | apply oz4 | apply oz5 | apply oz6 | apply oz7 | apply oz8 | apply oz9 | apply ozb | apply ozc | apply oze | apply ozf | apply ozg | apply ozh | apply ozi | apply ozj | apply ozk | refine ozd (by decide) ?_) | ((first | apply SO.call | apply DO.call); (iterate 3 (focus (simp (disch := omega) only [go_sem, ↓reduceIte, zn1, zn2, zn3, zn4, zn5, zn6, reduceCtorEq, zn7, zi1, zi2, if_pos, if_neg, q1, gl, gt, reps_one, Nat.mul_one, Nat.one_mul, List.drop_zero, List.take_succ_cons, List.take_zero] <;> rfl))); (first | apply SCall.ofX | apply DCall.ofX); (focus (first | assumption)); (focus (simp (disch := omega) only [go_sem, ↓reduceIte, zn1, zn2, zn3, zn4, zn5, zn6, reduceCtorEq, zn7, zi1, zi2, if_pos, if_neg, q1, gl, gt, reps_one, Nat.mul_one, Nat.one_mul, List.drop_zero, List.take_succ_cons, List.take_zero] <;> rfl))) | ((with_reducible first | apply SC.condB | apply SC.region | apply SO.run | apply DO.run); (focus (simp (disch := omega) only [go_sem, ↓reduceIte, zn1, zn2, zn3, zn4, zn5, zn6, reduceCtorEq, zn7, zi1, zi2, if_pos, if_neg, q1, gl, gt, reps_one, Nat.mul_one, Nat.one_mul, List.drop_zero, List.take_succ_cons, List.take_zero] <;> rfl)); (first | refine pickT ?_ | refine pickF ?_ | fail_if_success with_reducible refine pickA ?_)) | ((with_reducible refine SC.draw Tab.mixed ?_ ?_); (focus (first | rfl | simp (disch := omega) only [go_sem, ↓reduceIte, zn1, zn2, zn3, zn4, zn5, zn6, reduceCtorEq, zn7, zi1, zi2, if_pos, if_neg, q1, gl, gt, reps_one, Nat.mul_one, Nat.one_mul, List.drop_zero, List.take_succ_cons, List.take_zero]))) | (with_reducible apply SC.ops)))
        refine hK _ (k + 1) ?_ (by omega) (by omega)
        simp only [e]
        refine Le.ren 1 3 hB (by omega) (by omega) (by omega) ?_ ?_
        · (repeat' (first | exact trivial | refine mapSl_cons (by simp (disch := omega) only [go_sem, ↓reduceIte, zn1, zn2, zn3, zn4, zn5, zn6, reduceCtorEq, zn7, zi1, zi2, if_pos, if_neg] <;> rfl) ?_ ?_ | exact VMap.junk _ | exact VMap.sc _ | exact VMap.clo rfl | exact VMap.sl rfl (by omega) | exact VMap.cap rfl (by omega) | exact VMap.pt rfl (by omega) | exact VMap.nil_sl _ _ _ | exact VMap.int (by first | rfl | omega | (dsimp only; omega))))
        · (repeat' (first | exact mapHp_nil | refine mapHp_cons (by simp (disch := omega) only [go_sem, ↓reduceIte, zn1, zn2, zn3, zn4, zn5, zn6, reduceCtorEq, zn7, zi1, zi2, if_pos, if_neg] <;> rfl) ?_ ?_ | exact BMap.clo (by first | rfl | assumption | exact wv_clo _ | exact imR_clo _ _ | exact nv_clo _) | refine BMap.list ?_ | exact mapL_nil | refine mapL_cons ?_ ?_ | exact VMap.junk _ | exact VMap.sc _ | exact VMap.clo rfl | exact VMap.sl rfl (by omega) | exact VMap.cap rfl (by omega) | exact VMap.pt rfl (by omega) | exact VMap.nil_sl _ _ _ | exact VMap.int (by first | rfl | omega | (dsimp only; omega))))
    · have hkz : k = padZ b.length := by omega
      have h56 := padZ_64 b.length
      have q1 : ((((b.length + 1 + k : Nat) : Int) % 64) != 56) = false := by rw [bne_eq_false_iff_eq]; omega
      have hclo := bw_clo (b ++ [128] ++ List.replicate k 0)
      have eP : (padL b) = (b ++ [128] ++ List.replicate k 0) ++ (n8b (8 * (b.length : Int))) := by unfold padL; rw [← hkz]
      have eL := padL_len b
      rw [← hkz] at eL
      have hln : (b ++ [128] ++ List.replicate k 0).length = b.length + 1 + k := by rw [List.length_append, List.length_append, List.length_replicate]; rfl
      have cN := rnum_q (cap := none) (o := 1) (nx := 2) (l := b ++ [128] ++ List.replicate k 0) (8 * (b.length : Int)) (by omega) (by omega) (by omega) (by omega)
      rw [hln] at cN
      (repeat (first | (first | refine DO.nilC (by kernel_rfl) ?_ | refine DO.nil (by kernel_rfl) ?_) | (with_reducible first | apply oz1 | apply oz2 | apply oz3 | apply oz4 | apply oz5 | apply oz6 | apply oz7 | apply oz8 | apply oz9 | apply ozb | apply ozc | apply oze | apply ozf | apply ozg | apply ozh | apply ozi | apply ozj | apply ozk | refine ozd (by decide) ?_) | ((first | apply SO.call | apply DO.call); (iterate 3 (focus (simp (disch := omega) only [go_sem, ↓reduceIte, zn1, zn2, zn3, zn4, zn5, zn6, reduceCtorEq, zn7, zi1, zi2, if_pos, if_neg, q1] <;> rfl))); (first | apply SCall.ofX | apply DCall.ofX); (focus (first | assumption)); (focus (simp (disch := omega) only [go_sem, ↓reduceIte, zn1, zn2, zn3, zn4, zn5, zn6, reduceCtorEq, zn7, zi1, zi2, if_pos, if_neg, q1] <;> rfl))) | ((with_reducible first | apply SC.condB | apply SC.region | apply SO.run | apply DO.run); (focus (simp (disch := omega) only [go_sem, ↓reduceIte, zn1, zn2, zn3, zn4, zn5, zn6, reduceCtorEq, zn7, zi1, zi2, if_pos, if_neg, q1] <;> rfl)); (first | refine pickT ?_ | refine pickF ?_ | fail_if_success with_reducible refine pickA ?_)) | ((with_reducible refine SC.draw Tab.mixed ?_ ?_); (focus (first | rfl | simp (disch := omega) only [go_sem, ↓reduceIte, zn1, zn2, zn3, zn4, zn5, zn6, reduceCtorEq, zn7, zi1, zi2, if_pos, if_neg, q1]))) | (with_reducible apply SC.ops)))
      refine SO.inlQ (by simp (disch := omega) only [go_sem, ↓reduceIte, zn1, zn2, zn3, zn4, zn5, zn6, reduceCtorEq, zn7, zi1, zi2, if_pos, if_neg] <;> rfl) Tab.go23 (by simp (disch := omega) only [go_sem, ↓reduceIte, zn1, zn2, zn3, zn4, zn5, zn6, reduceCtorEq, zn7, zi1, zi2, if_pos, if_neg] <;> rfl) (by simp (disch := omega) only [go_sem, ↓reduceIte, zn1, zn2, zn3, zn4, zn5, zn6, reduceCtorEq, zn7, zi1, zi2, if_pos, if_neg] <;> rfl) (SInlQ.part [(0, ⟨25, bw (List.replicate 32 0), false⟩)] (fun i => 1 ≤ i) cN (fun id q h => ?_) (fun id q h => ?_) (fun y hp' nx' h => ?_) ?_)
      · simp only [hget] at h
        split at h
        · omega
        · cases h
      · simp only [hget] at h
        split at h
        · omega
        · cases h
      · obtain ⟨q, h1, h2, h3, rfl, rfl⟩ := h
        refine ⟨.sl (by omega), ⟨fun y hy => Only.clo (List.all_eq_true.1 (bw_clo _) y hy), trivial⟩, fun id k hk => ?_⟩
        simp only [hget] at hk
        split at hk
        · omega
        · cases hk
      rintro y hp' nx1 ⟨q, h1, h2, h3, rfl, rfl⟩
      rw [← eP, ← eL]
      have hP := padL_64 b
      have hPl : (padL b).length ≤ 2000000 := by
        have h1 := padL_len b
        omega
      have hPu := padL_u8 hu
      have hS : D = digL (hashN (padL b) ((padL b).length / 64)) := hD.symm
      clear hD eP eL cN hclo q1 h56 gl gt hK hc hk hkz hpz gtk gone gcb gb hln
      generalize padL b = P at *
      generalize hm : P.length / 64 = m at *
      have gb := bw_len P
      have gc := bw_clo P
      have gt : (bw P).take P.length = bw P := List.take_of_length_le (by omega)
      simp only [List.cons_append, List.nil_append]
      generalize hR0 : bw (List.replicate 32 0) = R0
      (repeat (first | (first | refine DO.nilC (by kernel_rfl) ?_ | refine DO.nil (by kernel_rfl) ?_) | (with_reducible first | apply oz1 | apply oz2 | apply oz3 | apply oz4 | apply oz5 | apply oz6 | apply oz7 | apply oz8 | apply oz9 | apply ozb | apply ozc | apply oze | apply ozf | apply ozg | apply ozh | apply ozi | apply ozj | apply ozk | refine ozd (by decide) ?_) | ((first | apply SO.call | apply DO.call); (iterate 3 (focus (simp (disch := omega) only [go_sem, ↓reduceIte, zn1, zn2, zn3, zn4, zn5, zn6, reduceCtorEq, zn7, zi1, zi2, if_pos, if_neg] <;> rfl))); (first | apply SCall.ofX | apply DCall.ofX); (focus (first | assumption)); (focus (simp (disch := omega) only [go_sem, ↓reduceIte, zn1, zn2, zn3, zn4, zn5, zn6, reduceCtorEq, zn7, zi1, zi2, if_pos, if_neg] <;> rfl))) | ((with_reducible first | apply SC.condB | apply SC.region | apply SO.run | apply DO.run); (focus (simp (disch := omega) only [go_sem, ↓reduceIte, zn1, zn2, zn3, zn4, zn5, zn6, reduceCtorEq, zn7, zi1, zi2, if_pos, if_neg] <;> rfl)); (first | refine pickT ?_ | refine pickF ?_ | fail_if_success with_reducible refine pickA ?_)) | ((with_reducible refine SC.draw Tab.mixed ?_ ?_); (focus (first | rfl | simp (disch := omega) only [go_sem, ↓reduceIte, zn1, zn2, zn3, zn4, zn5, zn6, reduceCtorEq, zn7, zi1, zi2, if_pos, if_neg]))) | (with_reducible apply SC.ops)))
      have e0 : [V.sc (.int .u32 1779033703), .sc (.int .u32 3144134277), .sc (.int .u32 1013904242), .sc (.int .u32 2773480762), .sc (.int .u32 1359893119), .sc (.int .u32 2600822924), .sc (.int .u32 528734635), .sc (.int .u32 1541459225)] = uv (stL st0) := rfl
      rw [e0]
      have gu8 : ∀ s : St8, (uv (stL s)).length = 8 := fun _ => rfl
      have gut : ∀ s : St8, (uv (stL s)).take 8 = uv (stL s) := fun _ => rfl
      have guc : ∀ s : St8, (uv (stL s)).all clo = true := fun s => uv_clo _
      refine SC.frz 3 (by simp) (y := .im (bw P) P.length) (ids := [q]) (by simp (disch := omega) only [go_sem, ↓reduceIte, zn1, zn2, zn3, zn4, zn5, zn6, reduceCtorEq, zn7, zi1, zi2, if_pos, if_neg, gb, gc, gt, List.drop_zero, Nat.mul_one] <;> rfl) (by omega) (hp' := [(nx1, ⟨57, uv (stL st0), false⟩), (0, ⟨25, R0, false⟩), (q, ⟨5, bw P, true⟩)]) (by simp only [fzHp, List.map_cons, List.map_nil, List.contains_cons, List.contains_nil, Bool.or_false, beq_self_eq_true, if_true, beq_false_of_ne (show nx1 ≠ q by omega), beq_false_of_ne (show (0 : Nat) ≠ q by omega), Bool.false_eq_true, if_false]) ?_
      refine SC.frz 4 (by simp) (y := .im (uv (stL st0)) 8) (ids := [nx1]) (by simp (disch := omega) only [go_sem, ↓reduceIte, zn1, zn2, zn3, zn4, zn5, zn6, reduceCtorEq, zn7, zi1, zi2, if_pos, if_neg, gu8, gut, guc, List.drop_zero, Nat.mul_one] <;> rfl) (by omega) (hp' := [(nx1, ⟨57, uv (stL st0), true⟩), (0, ⟨25, R0, false⟩), (q, ⟨5, bw P, true⟩)]) (by simp only [fzHp, List.map_cons, List.map_nil, List.contains_cons, List.contains_nil, Bool.or_false, beq_self_eq_true, if_true, beq_false_of_ne (show q ≠ nx1 by omega), beq_false_of_ne (show (0 : Nat) ≠ nx1 by omega), Bool.false_eq_true, if_false]) ?_
      refine SC.loop (fun i : Nat => ⟨[(2, .pt 0 0), (3, .im (bw P) P.length), (4, .im (uv (stL (hashN P i))) 8), (5, .sc (.int .i64 ((64 * i : Nat) : Int)))], [(0, ⟨25, R0, false⟩)], nx1 + 1, 60⟩)
        (fun i => i ≤ m) (fun i => m - i) 0 ?_ ?_ ?_
      · have e1 : uv (stL (hashN P 0)) = uv (stL st0) := rfl
        rw [e1]
        (refine Le.slots ?_ ?_ ?_ <;> (repeat' (first | (exact fun _ _ h => h) | exact Nat.le_refl _ | exact leSl_nil | refine leSl_cons (by simp (disch := omega) only [go_sem, ↓reduceIte, zn1, zn2, zn3, zn4, zn5, zn6, reduceCtorEq, zn7, zi1, zi2, if_pos, if_neg] <;> rfl) ?_ ?_ | exact VLe.junk _ | exact VLe.refl rfl | exact VLe.nil_sl _ _ _ | exact VLe.int (by first | rfl | omega | (dsimp only; omega)) | exact VLe.bool rfl | exact VLe.sl rfl (by first | rfl | omega) | exact VLe.cap rfl (by first | rfl | omega) | exact VLe.im rfl rfl | omega | (refine fun id k h => ?_; simp only [hget] at h ⊢; (repeat' (split at h)) <;> first | (cases h; done) | (simp (disch := omega) only [if_pos, if_neg]; exact h)))))
      · exact Nat.zero_le _
      · intro i hi K hK
        by_cases hc : i < m
        · as_aux_lemma =>
            have q1 : decide (((64 * i : Nat) : Int) < (P.length : Int)) = true := decide_eq_true (by omega)
            have c1 := rblock_s (b := blockAt P i) (hashN P i) (blockAt_len (by omega)) (blockAt_u8 hPu i)
            have e : cmp8 (blockAt P i) (hashN P i) = hashN P (i + 1) := rfl
            rw [e] at c1
            have e2 := bw_block P i
            have x0 : ((64 * i : Nat) : Int).toNat = 64 * i := by omega
            have x1 : (((64 * i : Nat) : Int) + 64).toNat = 64 * i + 64 := by omega
            have x2 : 64 * i + 64 - 64 * i = 64 := by omega
            generalize hashN P i = H at *
            generalize hH2 : hashN P (i + 1) = H2 at *
            generalize blockAt P i = bl at *
            (repeat (first | (first | refine DO.nilC (by kernel_rfl) ?_ | refine DO.nil (by kernel_rfl) ?_) | (with_reducible first | apply oz1 | apply oz2 | apply oz3 | apply oz4 | apply oz5 | apply oz6 | apply oz7 | apply oz8 | apply oz9 | apply ozb | apply ozc | apply oze | apply ozf | apply ozg | apply ozh | apply ozi | apply ozj | apply ozk | refine ozd (by decide) ?_) | ((first | apply SO.call | apply DO.call); (iterate 3 (focus (simp (disch := omega) only [go_sem, ↓reduceIte, zn1, zn2, zn3, zn4, zn5, zn6, reduceCtorEq, zn7, zi1, zi2, if_pos, if_neg, q1, x0, x1, x2, e2, Nat.mul_one] <;> rfl))); (first | apply SCall.ofX | apply DCall.ofX); (focus (first | assumption)); (focus (simp (disch := omega) only [go_sem, ↓reduceIte, zn1, zn2, zn3, zn4, zn5, zn6, reduceCtorEq, zn7, zi1, zi2, if_pos, if_neg, q1, x0, x1, x2, e2, Nat.mul_one] <;> rfl))) | ((apply DO.callL; (iterate 3 (focus (simp (disch := omega) only [go_sem, ↓reduceIte, zn1, zn2, zn3, zn4, zn5, zn6, reduceCtorEq, zn7, zi1, zi2, if_pos, if_neg, q1, x0, x1, x2, e2, Nat.mul_one] <;> rfl)))); apply DCall.ofX; (focus (first | assumption)); (focus (simp (disch := omega) only [go_sem, ↓reduceIte, zn1, zn2, zn3, zn4, zn5, zn6, reduceCtorEq, zn7, zi1, zi2, if_pos, if_neg, q1, x0, x1, x2, e2, Nat.mul_one] <;> rfl))) | ((first | apply SO.callV | apply DO.callV); (focus (simp (disch := omega) only [go_sem, ↓reduceIte, zn1, zn2, zn3, zn4, zn5, zn6, reduceCtorEq, zn7, zi1, zi2, if_pos, if_neg, q1, x0, x1, x2, e2, Nat.mul_one]; rfl)); (focus (simp (disch := omega) only [go_sem, ↓reduceIte, zn1, zn2, zn3, zn4, zn5, zn6, reduceCtorEq, zn7, zi1, zi2, if_pos, if_neg, q1, x0, x1, x2, e2, Nat.mul_one])); (focus (simp (disch := omega) only [go_sem, ↓reduceIte, zn1, zn2, zn3, zn4, zn5, zn6, reduceCtorEq, zn7, zi1, zi2, if_pos, if_neg, q1, x0, x1, x2, e2, Nat.mul_one]; rfl)); (focus (simp (disch := omega) only [go_sem, ↓reduceIte, zn1, zn2, zn3, zn4, zn5, zn6, reduceCtorEq, zn7, zi1, zi2, if_pos, if_neg, q1, x0, x1, x2, e2, Nat.mul_one] <;> rfl)); (first | apply SCallV.of | apply DCall.ofX); (focus (first | assumption)); (focus (simp (disch := omega) only [go_sem, ↓reduceIte, zn1, zn2, zn3, zn4, zn5, zn6, reduceCtorEq, zn7, zi1, zi2, if_pos, if_neg, q1, x0, x1, x2, e2, Nat.mul_one] <;> rfl))) | ((with_reducible first | apply SC.condB | apply SC.region | apply SO.run | apply DO.run); (focus (simp (disch := omega) only [go_sem, ↓reduceIte, zn1, zn2, zn3, zn4, zn5, zn6, reduceCtorEq, zn7, zi1, zi2, if_pos, if_neg, q1, x0, x1, x2, e2, Nat.mul_one] <;> rfl)); (first | refine pickT ?_ | refine pickF ?_ | fail_if_success with_reducible refine pickA ?_)) | ((with_reducible refine SC.draw Tab.mixed ?_ ?_); (focus (first | rfl | simp (disch := omega) only [go_sem, ↓reduceIte, zn1, zn2, zn3, zn4, zn5, zn6, reduceCtorEq, zn7, zi1, zi2, if_pos, if_neg, q1, x0, x1, x2, e2, Nat.mul_one]))) | (with_reducible apply SC.ops)))
            refine hK _ (i + 1) ?_ (by omega) (by omega)
            rw [hH2]
            (refine Le.slots ?_ ?_ ?_ <;> (repeat' (first | (exact fun _ _ h => h) | exact Nat.le_refl _ | exact leSl_nil | refine leSl_cons (by simp (disch := omega) only [go_sem, ↓reduceIte, zn1, zn2, zn3, zn4, zn5, zn6, reduceCtorEq, zn7, zi1, zi2, if_pos, if_neg] <;> rfl) ?_ ?_ | exact VLe.junk _ | exact VLe.refl rfl | exact VLe.nil_sl _ _ _ | exact VLe.int (by first | rfl | omega | (dsimp only; omega)) | exact VLe.bool rfl | exact VLe.sl rfl (by first | rfl | omega) | exact VLe.cap rfl (by first | rfl | omega) | exact VLe.im rfl rfl | omega | (refine fun id k h => ?_; simp only [hget] at h ⊢; (repeat' (split at h)) <;> first | (cases h; done) | (simp (disch := omega) only [if_pos, if_neg]; exact h)))))
        · have q1 : decide (((64 * i : Nat) : Int) < (P.length : Int)) = false := decide_eq_false (by omega)
          have him : i = m := by omega
          subst him
          generalize hashN P i = H at *
          clear hK gb gc gt hP hPl hPu hm hc
          (repeat (first | (first | refine DO.nilC (by kernel_rfl) ?_ | refine DO.nil (by kernel_rfl) ?_) | (with_reducible first | apply oz1 | apply oz2 | apply oz3 | apply oz4 | apply oz5 | apply oz6 | apply oz7 | apply oz8 | apply oz9 | apply ozb | apply ozc | apply oze | apply ozf | apply ozg | apply ozh | apply ozi | apply ozj | apply ozk | refine ozd (by decide) ?_) | ((first | apply SO.call | apply DO.call); (iterate 3 (focus (simp (disch := omega) only [go_sem, ↓reduceIte, zn1, zn2, zn3, zn4, zn5, zn6, reduceCtorEq, zn7, zi1, zi2, if_pos, if_neg, q1] <;> rfl))); (first | apply SCall.ofX | apply DCall.ofX); (focus (first | assumption)); (focus (simp (disch := omega) only [go_sem, ↓reduceIte, zn1, zn2, zn3, zn4, zn5, zn6, reduceCtorEq, zn7, zi1, zi2, if_pos, if_neg, q1] <;> rfl))) | ((with_reducible first | apply SC.condB | apply SC.region | apply SO.run | apply DO.run); (focus (simp (disch := omega) only [go_sem, ↓reduceIte, zn1, zn2, zn3, zn4, zn5, zn6, reduceCtorEq, zn7, zi1, zi2, if_pos, if_neg, q1] <;> rfl)); (first | refine pickT ?_ | refine pickF ?_ | fail_if_success with_reducible refine pickA ?_)) | ((with_reducible refine SC.draw Tab.mixed ?_ ?_); (focus (first | rfl | simp (disch := omega) only [go_sem, ↓reduceIte, zn1, zn2, zn3, zn4, zn5, zn6, reduceCtorEq, zn7, zi1, zi2, if_pos, if_neg, q1]))) | (with_reducible apply SC.ops)))
          have e1 : [V.sc (.int .u8 0), .sc (.int .u8 0), .sc (.int .u8 0), .sc (.int .u8 0), .sc (.int .u8 0), .sc (.int .u8 0), .sc (.int .u8 0), .sc (.int .u8 0), .sc (.int .u8 0), .sc (.int .u8 0), .sc (.int .u8 0), .sc (.int .u8 0), .sc (.int .u8 0), .sc (.int .u8 0), .sc (.int .u8 0), .sc (.int .u8 0), .sc (.int .u8 0), .sc (.int .u8 0), .sc (.int .u8 0), .sc (.int .u8 0), .sc (.int .u8 0), .sc (.int .u8 0), .sc (.int .u8 0), .sc (.int .u8 0), .sc (.int .u8 0), .sc (.int .u8 0), .sc (.int .u8 0), .sc (.int .u8 0), .sc (.int .u8 0), .sc (.int .u8 0), .sc (.int .u8 0), .sc (.int .u8 0)] = bw (digR H 0) := rfl
          (try rw [e1])
          refine SC.loop (fun t : Nat => ⟨[(2, .pt 0 0), (4, .im (uv (stL H)) 8), (6, .pt (nx1 + 1) 0), (7, .sc (.int .i64 t))], [(nx1 + 1, ⟨25, bw (digR H t), false⟩), (0, ⟨25, R0, false⟩)], nx1 + 2, 60⟩)
            (fun t => t ≤ 32) (fun t => 32 - t) 0 ?_ ?_ ?_
          · (try rw [← e1])
            (try simp (disch := omega) only [go_sem, ↓reduceIte, zn1, zn2, zn3, zn4, zn5, zn6, reduceCtorEq, zn7, zi1, zi2, if_pos, if_neg])
            (refine Le.slots ?_ ?_ ?_ <;> (repeat' (first | (exact fun _ _ h => h) | exact Nat.le_refl _ | exact leSl_nil | refine leSl_cons (by simp (disch := omega) only [go_sem, ↓reduceIte, zn1, zn2, zn3, zn4, zn5, zn6, reduceCtorEq, zn7, zi1, zi2, if_pos, if_neg] <;> rfl) ?_ ?_ | exact VLe.junk _ | exact VLe.refl rfl | exact VLe.nil_sl _ _ _ | exact VLe.int (by first | rfl | omega | (dsimp only; omega)) | exact VLe.bool rfl | exact VLe.sl rfl (by first | rfl | omega) | exact VLe.cap rfl (by first | rfl | omega) | exact VLe.im rfl rfl | omega | (refine fun id k h => ?_; simp only [hget] at h ⊢; (repeat' (split at h)) <;> first | (cases h; done) | (simp (disch := omega) only [if_pos, if_neg]; exact h)))))
          · exact Nat.zero_le _
          · intro t ht K hK
            by_cases hc : t < 32
            · as_aux_lemma =>
                have q1 : decide ((t : Int) < 32) = true := decide_eq_true (by omega)
                have g1 := uv_get (l := stL H) (i := t / 4) (by rw [stL_len]; omega)
                have g2 := digR_set H hc
                have g3 := digR_len H ht
                have g4 := digR_all H (t / 4) (t % 4) (by omega) (by omega)
                rw [show 4 * (t / 4) + t % 4 = t by omega] at g4
                rw [g4] at g2
                generalize (stL H).getD (t / 4) 0 = x at *
                have x1 : ((t : Int).tdiv 4) = ((t / 4 : Nat) : Int) := rfl
                have x2 : ((t : Int).tmod 4) = ((t % 4 : Nat) : Int) := rfl
                have x3 : ((24 : Int) - 8 * ((t % 4 : Nat) : Int)).toNat = 24 - 8 * (t % 4) := by omega
                have x4 : min (24 - 8 * (t % 4)) 32 = 24 - 8 * (t % 4) := by omega
                have x5 : x.fdiv (2 ^ (24 - 8 * (t % 4))) = x / 2 ^ (24 - 8 * (t % 4)) := Int.fdiv_eq_ediv_of_nonneg _ (Int.le_of_lt (Int.pow_pos (by omega)))
                generalize hR : bw (digR H t) = R2 at *
                (repeat (first | (first | refine DO.nilC (by kernel_rfl) ?_ | refine DO.nil (by kernel_rfl) ?_) | (with_reducible first | apply oz1 | apply oz2 | apply oz3 | apply oz4 | apply oz5 | apply oz6 | apply oz7 | apply oz8 | apply oz9 | apply ozb | apply ozc | apply oze | apply ozf | apply ozg | apply ozh | apply ozi | apply ozj | apply ozk | refine ozd (by decide) ?_) | ((first | apply SO.call | apply DO.call); (iterate 3 (focus (simp (disch := omega) only [go_sem, ↓reduceIte, zn1, zn2, zn3, zn4, zn5, zn6, reduceCtorEq, zn7, zi1, zi2, if_pos, if_neg, q1, x1, x2, x3, x4, x5, g1, g2, gu8, List.getElem?_drop, Nat.mul_one] <;> rfl))); (first | apply SCall.ofX | apply DCall.ofX); (focus (first | assumption)); (focus (simp (disch := omega) only [go_sem, ↓reduceIte, zn1, zn2, zn3, zn4, zn5, zn6, reduceCtorEq, zn7, zi1, zi2, if_pos, if_neg, q1, x1, x2, x3, x4, x5, g1, g2, gu8, List.getElem?_drop, Nat.mul_one] <;> rfl))) | ((with_reducible first | apply SC.condB | apply SC.region | apply SO.run | apply DO.run); (focus (simp (disch := omega) only [go_sem, ↓reduceIte, zn1, zn2, zn3, zn4, zn5, zn6, reduceCtorEq, zn7, zi1, zi2, if_pos, if_neg, q1, x1, x2, x3, x4, x5, g1, g2, gu8, List.getElem?_drop, Nat.mul_one] <;> rfl)); (first | refine pickT ?_ | refine pickF ?_ | fail_if_success with_reducible refine pickA ?_)) | ((with_reducible refine SC.draw Tab.mixed ?_ ?_); (focus (first | rfl | simp (disch := omega) only [go_sem, ↓reduceIte, zn1, zn2, zn3, zn4, zn5, zn6, reduceCtorEq, zn7, zi1, zi2, if_pos, if_neg, q1, x1, x2, x3, x4, x5, g1, g2, gu8, List.getElem?_drop, Nat.mul_one]))) | (with_reducible apply SC.ops)))
                refine hK _ (t + 1) ?_ (by omega) (by omega)
                (refine Le.slots ?_ ?_ ?_ <;> (repeat' (first | (exact fun _ _ h => h) | exact Nat.le_refl _ | exact leSl_nil | refine leSl_cons (by simp (disch := omega) only [go_sem, ↓reduceIte, zn1, zn2, zn3, zn4, zn5, zn6, reduceCtorEq, zn7, zi1, zi2, if_pos, if_neg] <;> rfl) ?_ ?_ | exact VLe.junk _ | exact VLe.refl rfl | exact VLe.nil_sl _ _ _ | exact VLe.int (by first | rfl | omega | (dsimp only; omega)) | exact VLe.bool rfl | exact VLe.sl rfl (by first | rfl | omega) | exact VLe.cap rfl (by first | rfl | omega) | exact VLe.im rfl rfl | omega | (refine fun id k h => ?_; simp only [hget] at h ⊢; (repeat' (split at h)) <;> first | (cases h; done) | (simp (disch := omega) only [if_pos, if_neg]; exact h)))))
            · have q1 : decide ((t : Int) < 32) = false := decide_eq_false (by omega)
              have ht8 : t = 32 := by omega
              subst ht8
              rw [digR_32, ← hS]
              have hDl : (bw D).length = 32 := by rw [hS]; rfl
              have gs := setAll_full D (by rw [← bw_len, hDl])
              rw [hR0] at gs
              have gt : (bw D).take 32 = bw D := List.take_of_length_le (by omega)
              have gr : R0.length = 32 := by rw [← hR0]; rfl
              have go := bw_one D
              (repeat (first | (first | refine DO.nilC (by kernel_rfl) ?_ | refine DO.nil (by kernel_rfl) ?_) | (with_reducible first | apply oz1 | apply oz2 | apply oz3 | apply oz4 | apply oz5 | apply oz6 | apply oz7 | apply oz8 | apply oz9 | apply ozb | apply ozc | apply oze | apply ozf | apply ozg | apply ozh | apply ozi | apply ozj | apply ozk | refine ozd (by decide) ?_) | ((first | apply SO.call | apply DO.call); (iterate 3 (focus (simp (disch := omega) only [go_sem, ↓reduceIte, zn1, zn2, zn3, zn4, zn5, zn6, reduceCtorEq, zn7, zi1, zi2, if_pos, if_neg, q1, gs, gt, hDl, gr, go, List.drop_zero] <;> rfl))); (first | apply SCall.ofX | apply DCall.ofX); (focus (first | assumption)); (focus (simp (disch := omega) only [go_sem, ↓reduceIte, zn1, zn2, zn3, zn4, zn5, zn6, reduceCtorEq, zn7, zi1, zi2, if_pos, if_neg, q1, gs, gt, hDl, gr, go, List.drop_zero] <;> rfl))) | ((with_reducible first | apply SC.condB | apply SC.region | apply SO.run | apply DO.run); (focus (simp (disch := omega) only [go_sem, ↓reduceIte, zn1, zn2, zn3, zn4, zn5, zn6, reduceCtorEq, zn7, zi1, zi2, if_pos, if_neg, q1, gs, gt, hDl, gr, go, List.drop_zero] <;> rfl)); (first | refine pickT ?_ | refine pickF ?_ | fail_if_success with_reducible refine pickA ?_)) | ((with_reducible refine SC.draw Tab.mixed ?_ ?_); (focus (first | rfl | simp (disch := omega) only [go_sem, ↓reduceIte, zn1, zn2, zn3, zn4, zn5, zn6, reduceCtorEq, zn7, zi1, zi2, if_pos, if_neg, q1, gs, gt, hDl, gr, go, List.drop_zero]))) | (with_reducible apply SC.ops)))
              exact retQ_ret Tryd.results8 (by simp (disch := omega) only [go_sem, ↓reduceIte, zn1, zn2, zn3, zn4, zn5, zn6, reduceCtorEq, zn7, zi1, zi2, if_pos, if_neg, gt, hDl, bw_clo, List.drop_zero] <;> rfl) (by simp (disch := omega) only [go_sem, ↓reduceIte, zn1, zn2, zn3, zn4, zn5, zn6, reduceCtorEq, zn7, zi1, zi2, if_pos, if_neg, gt, hDl, bw_clo, List.drop_zero] <;> rfl) rfl
end Go.Proofs.YtpbnhioelmgaiaaDoor
