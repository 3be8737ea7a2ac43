/- Texts joined: Hg Hh Hi Hj Hk Hl. -/
import Derived.Test.YtfhcmibgpddggaaZi
import Derived.Test.YtfhcmibgpddggaaZl
import Derived.Test.YtfhcmibgpddggaaZm
import Derived.Test.YtfhcmibgpddggaaZn
set_option linter.all false
open Nat renaming reduceEqDiff → zn1, reduceLT → zn2, reduceLeDiff → zn3, reduceAdd → zn4, reduceMul → zn5, reduceSub → zn6, reduceBEq → zn7
open Int renaming reduceToNat → zi1, reducePow → zi2
namespace Go.Proofs.Ytfhcmibgpddggaa
open Go.RowKit
def colNeg (h i r : Nat) (W : List (List Int)) : List (List Int) := W.mapIdx fun q row => if 2 * h ≤ q ∧ q < 2 * h + r then row.set i (-(row.getD i 0)) else row
theorem colNeg_len {h i r : Nat} {W : List (List Int)} : (colNeg h i r W).length = W.length := by simp [colNeg]
theorem colNeg_get {h i r q : Nat} {W : List (List Int)} (hq : q < W.length) : (colNeg h i r W).getD q [] = if 2 * h ≤ q ∧ q < 2 * h + r then (W.getD q []).set i (-((W.getD q []).getD i 0)) else W.getD q [] := by
  unfold colNeg
  rw [List.getD_eq_getElem?_getD, List.getElem?_mapIdx, getD_get' (d := []) hq]; rfl
theorem colNeg_zero {h i : Nat} {W : List (List Int)} : colNeg h i 0 W = W := rows_ext colNeg_len fun q hq => by
  rw [colNeg_len] at hq
  rw [colNeg_get hq, if_neg (by omega)]
theorem colNeg_set {h i r : Nat} {W : List (List Int)} (hr : 2 * h + r < W.length) : (colNeg h i r W).set (2 * h + r) ((W.getD (2 * h + r) []).set i (-((W.getD (2 * h + r) []).getD i 0))) = colNeg h i (r + 1) W := by
  refine rows_ext (by rw [List.length_set, colNeg_len, colNeg_len]) fun q hq => ?_
  rw [List.length_set, colNeg_len] at hq
  rw [getD_set (by rw [colNeg_len]; exact hr), colNeg_get hq, colNeg_get hq]
  by_cases e : q = 2 * h + r
  · rw [if_pos e, if_pos (by omega), e]
  · rw [if_neg e]
    by_cases e2 : 2 * h ≤ q ∧ q < 2 * h + r
    · rw [if_pos e2, if_pos (by omega)]
    · rw [if_neg e2, if_neg (by omega)]
def negW (h i : Nat) (W : List (List Int)) : List (List Int) :=
  colNeg h i h ((W.set i (negI (W.getD i []))).set (h + i) (negI (W.getD (h + i) [])))
theorem negW_wi {h w K i : Nat} {W : List (List Int)} (hW : WI h w K W) (hi : i < h) : WI h w K (negW h i W) := by
  have hl := hW.len
  have key : ∀ q, ∀ t, Fits K ((negI (W.getD q [])).getD t 0) := by
    intro q t
    by_cases ht : t < (W.getD q []).length
    · rw [negI_get ht]; exact fits_neg (hW.fit q t)
    · rw [List.getD_eq_getElem?_getD, List.getElem?_eq_none (by rw [negI_len]; omega)]; exact fits0
  have h1 := hW.set (q := i) (r := negI (W.getD i [])) (by omega) (by rw [negI_len]) (key i)
  have h2 := h1.set (q := h + i) (r := negI (W.getD (h + i) [])) (by omega) (by rw [negI_len, getD_set (by omega), if_neg (by omega)]) (key (h + i))
  unfold negW
  generalize hX : (W.set i (negI (W.getD i []))).set (h + i) (negI (W.getD (h + i) [])) = X at *
  have hX2 : ∀ q, 2 * h ≤ q → q < 3 * h → X.getD q [] = W.getD q [] := by
    intro q h3 h4
    rw [← hX, getD_set (by rw [List.length_set]; omega), if_neg (by omega), getD_set (by omega), if_neg (by omega)]
  have hxl := h2.len
  refine ⟨by rw [colNeg_len]; exact hxl, fun q hq => ?_, fun q h3 h4 => ?_, fun q t => ?_⟩
  · rw [colNeg_get (by omega), if_neg (by omega)]; exact h2.rowM q hq
  · rw [colNeg_get (by omega)]
    split
    · rw [List.length_set]; exact h2.rowU q h3 h4
    · exact h2.rowU q h3 h4
  · by_cases hq : q < 3 * h
    · rw [colNeg_get (by omega)]
      split
      · rename_i hc
        rw [hX2 q (by omega) hq]
        have hrl := hW.rowU q (by omega) hq
        rw [getD_set (by omega)]
        split
        · exact fits_neg (hW.fit q i)
        · exact hW.fit q t
      · exact h2.fit q t
    · rw [List.getD_eq_getElem?_getD (l := colNeg _ _ _ _), List.getElem?_eq_none (by rw [colNeg_len]; omega)]
      exact fits0
set_option maxHeartbeats 16000000 in
set_option maxRecDepth 8000 in
theorem negate_q {h w K p oM oU oV nx i : Nat} {a b c : List Nat} {W : List (List Int)} (hW : WI h w K W) (hK : K ≤ 1000000) (hI : WIds p oM oU oV a b c h nx) (hi : i < h) (hn : h ≤ 1000000) (hw : w ≤ 1000000) :
    InlQ Try.prog 52 [.pt p 0, .sc (.int .i64 i)] (wkH p oM oU oV h w a b c W) nx (fun x hp' nx' => x = .tu [] ∧ nx' = nx ∧ hp' = wkH p oM oU oV h w a b c (negW h i W)) := by
  have hl := hW.len
  obtain ⟨l1, l2, l3, l4⟩ := hI.lts
  have v1 : p + 1 - nx = 0 := by omega
  have v2 : oM + 1 - nx = 0 := by omega
  have v3 : oU + 1 - nx = 0 := by omega
  have v4 : oV + 1 - nx = 0 := by omega
  obtain ⟨z1, z2, z3, z4, z5, z6⟩ := hI.nes
  have la := hI.la
  have lb := hI.lb
  have lc := hI.lc
  have ga := slR_len 2 w a
  have gb := slR_len 2 h b
  have gc := slR_len 2 h c
  rw [la] at ga
  rw [lb] at gb
  rw [lc] at gc
  refine InlQ.run Try.func52 rfl Try.ntmps52 (by simp) (by unfold wkH workC; simp (disch := omega) only [go_sem, zn4]; rfl) fun B hB => ?_
  (repeat (first | refine DO.nilF (fun i => i + 1 - nx) (by simp (disch := omega) only [go_sem, ↓reduceIte, zn1, zn2, zn3, zn4, zn5, zn6, reduceCtorEq, zn7, zi1, zi2, if_pos, if_neg, List.map_cons, List.map_nil, Option.map_some, Option.map_none, Nat.add_sub_cancel_left, Nat.sub_eq_zero_of_le, Nat.add_assoc, zn4] <;> rfl) (by kernel_rfl) ?_ | (with_reducible first | apply oz1 | apply oz2 | apply oz3 | apply oz4 | apply oz5 | apply oz6 | apply oz7 | apply oz8 | apply oz9 | apply ozb | apply ozc | apply oze | apply ozf | apply ozg | apply ozh | apply ozi | apply ozj | apply ozk | refine ozd (by decide) ?_) | ((first | apply SO.call | apply DO.call); (iterate 3 (focus (simp (disch := omega) only [go_sem, ↓reduceIte, zn1, zn2, zn3, zn4, zn5, zn6, reduceCtorEq, zn7, zi1, zi2, if_pos, if_neg] <;> rfl))); (first | apply SCall.ofX | apply DCall.ofX); (focus (first | assumption)); (focus (simp (disch := omega) only [go_sem, ↓reduceIte, zn1, zn2, zn3, zn4, zn5, zn6, reduceCtorEq, zn7, zi1, zi2, if_pos, if_neg] <;> rfl))) | ((with_reducible first | apply SC.condB | apply SC.region | apply SO.run | apply DO.run); (focus (simp (disch := omega) only [go_sem, ↓reduceIte] <;> rfl)); (first | refine pickT ?_ | refine pickF ?_ | fail_if_success with_reducible refine pickA ?_)) | ((with_reducible refine SC.draw Tab.mixed ?_ ?_); (focus (first | rfl | simp (disch := omega) only [go_sem, ↓reduceIte, zn1, zn2, zn3, zn4, zn5, zn6, reduceCtorEq, zn7, zi1, zi2, if_pos, if_neg]))) | (with_reducible apply SC.ops)))
  have e1 : (W).set (i) (negPre 0 (W.getD (i) [])) = W := by
    rw [negPre_zero]
    have := setI_self (M := W) (i := i) (by omega)
    exact this
  refine SC.loop (fun t : Nat => ⟨[(0, .pt p 0), (1, .sc (.int .i64 i)), (4, .sc (.int .i64 t))], wkH p oM oU oV h w a b c ((W).set (i) (negPre t (W.getD (i) []))), nx, 100⟩)
    (fun t => t ≤ w) (fun t => w - t) 0 ?_ ?_ ?_
  · rw [e1]
    unfold wkH workC
    (refine Le.slots ?_ ?_ ?_ <;> (repeat' (first | (exact fun _ _ h => h) | exact Nat.le_refl _ | exact leSl_nil | refine leSl_cons (by simp (disch := omega) only [go_sem, ↓reduceIte, zn1, reduceCtorEq] <;> rfl) ?_ ?_ | exact VLe.junk _ | exact VLe.refl rfl | exact VLe.nil_sl _ _ _ | exact VLe.int (by first | rfl | omega | (dsimp only; omega)) | exact VLe.bool rfl | exact VLe.sl rfl (by first | rfl | omega) | exact VLe.cap rfl (by first | rfl | omega) | exact VLe.im rfl rfl | omega | (refine fun id k h => ?_; simp only [hget] at h ⊢; (repeat' (split at h)) <;> first | (cases h; done) | (simp (disch := omega) only [if_pos, if_neg]; exact h)))))
  · exact Nat.zero_le _
  · intro t ht K2 hK2
    have hrl : (W.getD (i) []).length = w := hW.rowM i hi
    by_cases hc : t < w
    · as_aux_lemma =>
        have q1 := decide_eq_true (p := (t : Int) < (w : Int)) (by omega)
        have hWl : ((W).set (i) (negPre t (W.getD (i) []))).length = 3 * h := by rw [List.length_set]; exact hl
        have gi := slR_get (z := 2) (m := w) (ids := a) (k := i) (by omega)
        obtain ⟨gR, y1, y2, y3, y4, y5⟩ := hI.rowF hWl (q := i) (by omega)
        rw [getD_set (by omega), if_pos rfl] at gR
        have c1 := neg_i ((W.getD (i) []).getD t 0) K (hW.fit (i) t) (by omega)
        have gl := ivR_len (negPre t (W.getD (i) []))
        rw [negPre_len, hrl] at gl
        have gd := ivR_drop (l := negPre t (W.getD (i) [])) (i := t) (by rw [negPre_len]; omega)
        rw [negPre_get (by omega), if_neg (by omega)] at gd
        have gs := ivR_set (l := negPre t (W.getD (i) [])) (i := t) (-((W.getD (i) []).getD t 0)) (by rw [negPre_len]; omega)
        rw [negPre_set (by omega)] at gs
        have hrs := hI.rset hWl (q := i) (by omega) (negPre (t + 1) (W.getD (i) []))
        rw [List.set_set] at hrs
        have hkl := hI.kl (W := (W).set (i) (negPre t (W.getD (i) []))) (m := nx) (by omega)
        rw [hI.iM hi] at gR y1 y2 y3 y4 y5 hrs
        have v5 : a.getD i 0 + 1 - nx = 0 := Nat.sub_eq_zero_of_le y1
        unfold wkH workC at *
        generalize (ivR (negPre t (W.getD (i) []))).drop ((t + 1) * 2) = D at *
        generalize hA : ivR (negPre t (W.getD (i) [])) = A at *
        generalize (W.getD (i) []).getD t 0 = x at *
        generalize hA' : ivR (negPre (t + 1) (W.getD (i) [])) = A' at *
        generalize hH : rowsH 54 (a ++ b ++ c) (rI ((W).set (i) (negPre t (W.getD (i) [])))) = H at *
        generalize a.getD i 0 = idk at *
        unfold iv sv at c1
        unfold ivC sv at gd gs
        simp only [List.cons_append, List.nil_append] at gd
        have g2 : t * 2 < A.length := by omega
        (repeat (first | refine DO.nilF (fun i => i + 1 - nx) (by simp (disch := omega) only [go_sem, List.map_cons, List.map_nil, Option.map_some, Option.map_none, Nat.sub_eq_zero_of_le] <;> rfl) (by kernel_rfl) ?_ | (with_reducible first | apply oz1 | apply oz2 | apply oz3 | apply oz4 | apply oz5 | apply oz6 | apply oz7 | apply oz8 | apply oz9 | apply ozb | apply ozc | apply oze | apply ozf | apply ozg | apply ozh | apply ozi | apply ozj | apply ozk | refine ozd (by decide) ?_) | ((first | apply SO.call | apply DO.call); (iterate 3 (focus (simp (disch := omega) only [go_sem, ↓reduceIte] <;> rfl))); (first | apply SCall.ofX | apply DCall.ofX); (focus (first | assumption)); (focus (simp (disch := omega) only [go_sem] <;> rfl))) | ((with_reducible first | apply SC.condB | apply SC.region | apply SO.run | apply DO.run); (focus (simp (disch := omega) only [go_sem, ↓reduceIte, zn1, zn4, reduceCtorEq, if_pos, q1, gi, gR, gl, gd, gs, hrs, z1, y2, y3, y4, y5] <;> rfl)); (first | refine pickT ?_ | refine pickF ?_ | fail_if_success with_reducible refine pickA ?_)) | ((with_reducible refine SC.draw Tab.mixed ?_ ?_); (focus (first | rfl | simp (disch := omega) only [go_sem, if_pos, hkl]))) | (with_reducible apply SC.ops)))
        refine hK2 _ (t + 1) ?_ (by omega) (by omega)
        (refine Le.slots ?_ ?_ ?_ <;> (repeat' (first | (exact fun _ _ h => h) | exact Nat.le_refl _ | exact leSl_nil | refine leSl_cons (by simp (disch := omega) only [go_sem, ↓reduceIte, zn1, reduceCtorEq] <;> rfl) ?_ ?_ | exact VLe.junk _ | exact VLe.refl rfl | exact VLe.nil_sl _ _ _ | exact VLe.int (by first | rfl | omega | (dsimp only; omega)) | exact VLe.bool rfl | exact VLe.sl rfl (by first | rfl | omega) | exact VLe.cap rfl (by first | rfl | omega) | exact VLe.im rfl rfl | omega | (refine fun id k h => ?_; simp only [hget] at h ⊢; (repeat' (split at h)) <;> first | (cases h; done) | (simp (disch := omega) only [if_pos, if_neg]; exact h)))))
    · have htw : t = w := by omega
      have q1 := decide_eq_false (p := (w : Int) < (w : Int)) (by omega)
      rw [htw, negPre_end hrl]
      unfold wkH workC
      (repeat (first | refine DO.nilF (fun i => i + 1 - nx) (by simp (disch := omega) only [go_sem, ↓reduceIte, zn1, zn2, zn3, zn4, zn5, zn6, reduceCtorEq, zn7, zi1, zi2, if_pos, if_neg, List.map_cons, List.map_nil, Option.map_some, Option.map_none, Nat.add_sub_cancel_left, Nat.sub_eq_zero_of_le, Nat.add_assoc, zn4] <;> rfl) (by kernel_rfl) ?_ | (with_reducible first | apply oz1 | apply oz2 | apply oz3 | apply oz4 | apply oz5 | apply oz6 | apply oz7 | apply oz8 | apply oz9 | apply ozb | apply ozc | apply oze | apply ozf | apply ozg | apply ozh | apply ozi | apply ozj | apply ozk | refine ozd (by decide) ?_) | ((first | apply SO.call | apply DO.call); (iterate 3 (focus (simp (disch := omega) only [go_sem, ↓reduceIte, zn1, zn2, zn3, zn4, zn5, zn6, reduceCtorEq, zn7, zi1, zi2, if_pos, if_neg, q1, z1, z2, z3, z4, z5, z6] <;> rfl))); (first | apply SCall.ofX | apply DCall.ofX); (focus (first | assumption)); (focus (simp (disch := omega) only [go_sem, ↓reduceIte, zn1, zn2, zn3, zn4, zn5, zn6, reduceCtorEq, zn7, zi1, zi2, if_pos, if_neg, q1, z1, z2, z3, z4, z5, z6] <;> rfl))) | ((with_reducible first | apply SC.condB | apply SC.region | apply SO.run | apply DO.run); (focus (simp (disch := omega) only [go_sem, ↓reduceIte, zn1, reduceCtorEq, q1] <;> rfl)); (first | refine pickT ?_ | refine pickF ?_ | fail_if_success with_reducible refine pickA ?_)) | ((with_reducible refine SC.draw Tab.mixed ?_ ?_); (focus (first | rfl | simp (disch := omega) only [go_sem, ↓reduceIte, zn1, zn2, zn3, zn4, zn5, zn6, reduceCtorEq, zn7, zi1, zi2, if_pos, if_neg, q1, z1, z2, z3, z4, z5, z6]))) | (with_reducible apply SC.ops)))
      have e2 : (W.set i (negI (W.getD i []))).set (h + i) (negPre 0 (W.getD (h + i) [])) = W.set i (negI (W.getD i [])) := by
        rw [negPre_zero]
        have := setI_self (M := W.set i (negI (W.getD i []))) (i := h + i) (by rw [List.length_set]; omega)
        rwa [getD_set (by omega), if_neg (by omega)] at this
      refine SC.loop (fun t : Nat => ⟨[(0, .pt p 0), (1, .sc (.int .i64 i)), (5, .sc (.int .i64 t))], wkH p oM oU oV h w a b c ((W.set i (negI (W.getD i []))).set (h + i) (negPre t (W.getD (h + i) []))), nx, 100⟩)
        (fun t => t ≤ h) (fun t => h - t) 0 ?_ ?_ ?_
      · rw [e2]
        unfold wkH workC
        (refine Le.slots ?_ ?_ ?_ <;> (repeat' (first | (exact fun _ _ h => h) | exact Nat.le_refl _ | exact leSl_nil | refine leSl_cons (by simp (disch := omega) only [go_sem, ↓reduceIte, zn1, reduceCtorEq] <;> rfl) ?_ ?_ | exact VLe.junk _ | exact VLe.refl rfl | exact VLe.nil_sl _ _ _ | exact VLe.int (by first | rfl | omega | (dsimp only; omega)) | exact VLe.bool rfl | exact VLe.sl rfl (by first | rfl | omega) | exact VLe.cap rfl (by first | rfl | omega) | exact VLe.im rfl rfl | omega | (refine fun id k h => ?_; simp only [hget] at h ⊢; (repeat' (split at h)) <;> first | (cases h; done) | (simp (disch := omega) only [if_pos, if_neg]; exact h)))))
      · exact Nat.zero_le _
      · intro t ht K2 hK2
        have hrl : (W.getD (h + i) []).length = h := hW.rowU (h + i) (by omega) (by omega)
        by_cases hc : t < h
        · as_aux_lemma =>
            have q1 := decide_eq_true (p := (t : Int) < (h : Int)) (by omega)
            have hWl : ((W.set i (negI (W.getD i []))).set (h + i) (negPre t (W.getD (h + i) []))).length = 3 * h := by rw [List.length_set, List.length_set]; exact hl
            have gi := slR_get (z := 2) (m := h) (ids := b) (k := i) (by omega)
            obtain ⟨gR, y1, y2, y3, y4, y5⟩ := hI.rowF hWl (q := h + i) (by omega)
            rw [getD_set (by rw [List.length_set]; omega), if_pos rfl] at gR
            have c1 := neg_i ((W.getD (h + i) []).getD t 0) K (hW.fit (h + i) t) (by omega)
            have gl := ivR_len (negPre t (W.getD (h + i) []))
            rw [negPre_len, hrl] at gl
            have gd := ivR_drop (l := negPre t (W.getD (h + i) [])) (i := t) (by rw [negPre_len]; omega)
            rw [negPre_get (by omega), if_neg (by omega)] at gd
            have gs := ivR_set (l := negPre t (W.getD (h + i) [])) (i := t) (-((W.getD (h + i) []).getD t 0)) (by rw [negPre_len]; omega)
            rw [negPre_set (by omega)] at gs
            have hrs := hI.rset hWl (q := h + i) (by omega) (negPre (t + 1) (W.getD (h + i) []))
            rw [List.set_set] at hrs
            have hkl := hI.kl (W := (W.set i (negI (W.getD i []))).set (h + i) (negPre t (W.getD (h + i) []))) (m := nx) (by omega)
            rw [hI.iU hi] at gR y1 y2 y3 y4 y5 hrs
            have v5 : b.getD i 0 + 1 - nx = 0 := Nat.sub_eq_zero_of_le y1
            unfold wkH workC at *
            generalize (ivR (negPre t (W.getD (h + i) []))).drop ((t + 1) * 2) = D at *
            generalize hA : ivR (negPre t (W.getD (h + i) [])) = A at *
            generalize (W.getD (h + i) []).getD t 0 = x at *
            generalize hA' : ivR (negPre (t + 1) (W.getD (h + i) [])) = A' at *
            generalize hH : rowsH 54 (a ++ b ++ c) (rI ((W.set i (negI (W.getD i []))).set (h + i) (negPre t (W.getD (h + i) [])))) = H at *
            generalize b.getD i 0 = idk at *
            unfold iv sv at c1
            unfold ivC sv at gd gs
            simp only [List.cons_append, List.nil_append] at gd
            have g2 : t * 2 < A.length := by omega
            (repeat (first | refine DO.nilF (fun i => i + 1 - nx) (by simp (disch := omega) only [go_sem, List.map_cons, List.map_nil, Option.map_some, Option.map_none, Nat.sub_eq_zero_of_le] <;> rfl) (by kernel_rfl) ?_ | (with_reducible first | apply oz1 | apply oz2 | apply oz3 | apply oz4 | apply oz5 | apply oz6 | apply oz7 | apply oz8 | apply oz9 | apply ozb | apply ozc | apply oze | apply ozf | apply ozg | apply ozh | apply ozi | apply ozj | apply ozk | refine ozd (by decide) ?_) | ((first | apply SO.call | apply DO.call); (iterate 3 (focus (simp (disch := omega) only [go_sem, ↓reduceIte] <;> rfl))); (first | apply SCall.ofX | apply DCall.ofX); (focus (first | assumption)); (focus (simp (disch := omega) only [go_sem] <;> rfl))) | ((with_reducible first | apply SC.condB | apply SC.region | apply SO.run | apply DO.run); (focus (simp (disch := omega) only [go_sem, ↓reduceIte, zn1, zn4, reduceCtorEq, if_pos, q1, gi, gR, gl, gd, gs, hrs, z2, z3, y2, y3, y4, y5] <;> rfl)); (first | refine pickT ?_ | refine pickF ?_ | fail_if_success with_reducible refine pickA ?_)) | ((with_reducible refine SC.draw Tab.mixed ?_ ?_); (focus (first | rfl | simp (disch := omega) only [go_sem, if_pos, hkl]))) | (with_reducible apply SC.ops)))
            refine hK2 _ (t + 1) ?_ (by omega) (by omega)
            (refine Le.slots ?_ ?_ ?_ <;> (repeat' (first | (exact fun _ _ h => h) | exact Nat.le_refl _ | exact leSl_nil | refine leSl_cons (by simp (disch := omega) only [go_sem, ↓reduceIte, zn1, reduceCtorEq] <;> rfl) ?_ ?_ | exact VLe.junk _ | exact VLe.refl rfl | exact VLe.nil_sl _ _ _ | exact VLe.int (by first | rfl | omega | (dsimp only; omega)) | exact VLe.bool rfl | exact VLe.sl rfl (by first | rfl | omega) | exact VLe.cap rfl (by first | rfl | omega) | exact VLe.im rfl rfl | omega | (refine fun id k h => ?_; simp only [hget] at h ⊢; (repeat' (split at h)) <;> first | (cases h; done) | (simp (disch := omega) only [if_pos, if_neg]; exact h)))))
        · have htw : t = h := by omega
          have q1 := decide_eq_false (p := (h : Int) < (h : Int)) (by omega)
          rw [htw, negPre_end hrl]
          unfold wkH workC
          (repeat (first | refine DO.nilF (fun i => i + 1 - nx) (by simp (disch := omega) only [go_sem, ↓reduceIte, zn1, zn2, zn3, zn4, zn5, zn6, reduceCtorEq, zn7, zi1, zi2, if_pos, if_neg, List.map_cons, List.map_nil, Option.map_some, Option.map_none, Nat.add_sub_cancel_left, Nat.sub_eq_zero_of_le, Nat.add_assoc, zn4] <;> rfl) (by kernel_rfl) ?_ | (with_reducible first | apply oz1 | apply oz2 | apply oz3 | apply oz4 | apply oz5 | apply oz6 | apply oz7 | apply oz8 | apply oz9 | apply ozb | apply ozc | apply oze | apply ozf | apply ozg | apply ozh | apply ozi | apply ozj | apply ozk | refine ozd (by decide) ?_) | ((first | apply SO.call | apply DO.call); (iterate 3 (focus (simp (disch := omega) only [go_sem, ↓reduceIte, zn1, zn2, zn3, zn4, zn5, zn6, reduceCtorEq, zn7, zi1, zi2, if_pos, if_neg, q1, z1, z2, z3, z4, z5, z6] <;> rfl))); (first | apply SCall.ofX | apply DCall.ofX); (focus (first | assumption)); (focus (simp (disch := omega) only [go_sem, ↓reduceIte, zn1, zn2, zn3, zn4, zn5, zn6, reduceCtorEq, zn7, zi1, zi2, if_pos, if_neg, q1, z1, z2, z3, z4, z5, z6] <;> rfl))) | ((with_reducible first | apply SC.condB | apply SC.region | apply SO.run | apply DO.run); (focus (simp (disch := omega) only [go_sem, ↓reduceIte, zn1, zn4, reduceCtorEq, q1] <;> rfl)); (first | refine pickT ?_ | refine pickF ?_ | fail_if_success with_reducible refine pickA ?_)) | ((with_reducible refine SC.draw Tab.mixed ?_ ?_); (focus (first | rfl | simp (disch := omega) only [go_sem, ↓reduceIte, zn1, zn2, zn3, zn4, zn5, zn6, reduceCtorEq, zn7, zi1, zi2, if_pos, if_neg, q1, z1, z2, z3, z4, z5, z6]))) | (with_reducible apply SC.ops)))
          have e3 : colNeg h i 0 ((W.set i (negI (W.getD i []))).set (h + i) (negI (W.getD (h + i) []))) = (W.set i (negI (W.getD i []))).set (h + i) (negI (W.getD (h + i) [])) := colNeg_zero
          have eA : negW h i W = colNeg h i h ((W.set i (negI (W.getD i []))).set (h + i) (negI (W.getD (h + i) []))) := rfl
          have hX2 : ∀ q, 2 * h ≤ q → q < 3 * h → ((W.set i (negI (W.getD i []))).set (h + i) (negI (W.getD (h + i) []))).getD q [] = W.getD q [] := by
            intro q h3 h4
            rw [getD_set (by rw [List.length_set]; omega), if_neg (by omega), getD_set (by omega), if_neg (by omega)]
          have hXl : ((W.set i (negI (W.getD i []))).set (h + i) (negI (W.getD (h + i) []))).length = 3 * h := by rw [List.length_set, List.length_set]; exact hl
          rw [← e3, eA]
          generalize (W.set i (negI (W.getD i []))).set (h + i) (negI (W.getD (h + i) [])) = X at *
          refine SC.loop (fun t : Nat => ⟨[(0, .pt p 0), (1, .sc (.int .i64 i)), (6, .sc (.int .i64 t))], wkH p oM oU oV h w a b c (colNeg h i t X), nx, 100⟩)
            (fun t => t ≤ h) (fun t => h - t) 0 ?_ ?_ ?_
          · unfold wkH workC
            (refine Le.slots ?_ ?_ ?_ <;> (repeat' (first | (exact fun _ _ h => h) | exact Nat.le_refl _ | exact leSl_nil | refine leSl_cons (by simp (disch := omega) only [go_sem, ↓reduceIte, zn1, reduceCtorEq] <;> rfl) ?_ ?_ | exact VLe.junk _ | exact VLe.refl rfl | exact VLe.nil_sl _ _ _ | exact VLe.int (by first | rfl | omega | (dsimp only; omega)) | exact VLe.bool rfl | exact VLe.sl rfl (by first | rfl | omega) | exact VLe.cap rfl (by first | rfl | omega) | exact VLe.im rfl rfl | omega | (refine fun id k h => ?_; simp only [hget] at h ⊢; (repeat' (split at h)) <;> first | (cases h; done) | (simp (disch := omega) only [if_pos, if_neg]; exact h)))))
          · exact Nat.zero_le _
          · intro t ht K3 hK3
            by_cases hc : t < h
            · as_aux_lemma =>
                have q1 := decide_eq_true (p := (t : Int) < (h : Int)) (by omega)
                have hrl : (W.getD (2 * h + t) []).length = h := hW.rowU (2 * h + t) (by omega) (by omega)
                have hWl : (colNeg h i t X).length = 3 * h := by rw [colNeg_len]; exact hXl
                have gi := slR_get (z := 2) (m := h) (ids := c) (k := t) (by omega)
                obtain ⟨gR, y1, y2, y3, y4, y5⟩ := hI.rowF hWl (q := 2 * h + t) (by omega)
                rw [colNeg_get (by omega), if_neg (by omega), hX2 _ (by omega) (by omega)] at gR
                have c1 := neg_i ((W.getD (2 * h + t) []).getD i 0) K (hW.fit (2 * h + t) i) (by omega)
                have gl := ivR_len (W.getD (2 * h + t) [])
                rw [hrl] at gl
                have gd := ivR_drop (l := W.getD (2 * h + t) []) (i := i) (by omega)
                have gs := ivR_set (l := W.getD (2 * h + t) []) (i := i) (-((W.getD (2 * h + t) []).getD i 0)) (by omega)
                have hrs := hI.rset hWl (q := 2 * h + t) (by omega) ((W.getD (2 * h + t) []).set i (-((W.getD (2 * h + t) []).getD i 0)))
                have hcs := colNeg_set (h := h) (i := i) (r := t) (W := X) (by omega)
                rw [hX2 _ (by omega) (by omega)] at hcs
                rw [hcs] at hrs
                have hkl := hI.kl (W := colNeg h i t X) (m := nx) (by omega)
                rw [hI.iV] at gR y1 y2 y3 y4 y5 hrs
                have v5 : c.getD t 0 + 1 - nx = 0 := Nat.sub_eq_zero_of_le y1
                clear hcs
                unfold wkH workC at *
                generalize (ivR (W.getD (2 * h + t) [])).drop ((i + 1) * 2) = Di at *
                generalize hA : ivR (W.getD (2 * h + t) []) = A at *
                generalize hA' : ivR ((W.getD (2 * h + t) []).set i (-((W.getD (2 * h + t) []).getD i 0))) = A' at *
                generalize (W.getD (2 * h + t) []).getD i 0 = x at *
                generalize hH : rowsH 54 (a ++ b ++ c) (rI (colNeg h i t X)) = H at *
                generalize c.getD t 0 = idk at *
                unfold iv sv at c1
                unfold ivC sv at gd gs
                simp only [List.cons_append, List.nil_append] at gd
                have g2 : i * 2 < A.length := by omega
                (repeat (first | refine DO.nilF (fun i => i + 1 - nx) (by simp (disch := omega) only [go_sem, List.map_cons, List.map_nil, Option.map_some, Option.map_none, Nat.sub_eq_zero_of_le] <;> rfl) (by kernel_rfl) ?_ | (with_reducible first | apply oz1 | apply oz2 | apply oz3 | apply oz4 | apply oz5 | apply oz6 | apply oz7 | apply oz8 | apply oz9 | apply ozb | apply ozc | apply oze | apply ozf | apply ozg | apply ozh | apply ozi | apply ozj | apply ozk | refine ozd (by decide) ?_) | ((first | apply SO.call | apply DO.call); (iterate 3 (focus (simp (disch := omega) only [go_sem, ↓reduceIte] <;> rfl))); (first | apply SCall.ofX | apply DCall.ofX); (focus (first | assumption)); (focus (simp (disch := omega) only [go_sem] <;> rfl))) | ((with_reducible first | apply SC.condB | apply SC.region | apply SO.run | apply DO.run); (focus (simp (disch := omega) only [go_sem, ↓reduceIte, zn1, zn2, zn4, reduceCtorEq, if_pos, q1, gi, gR, gl, gd, gs, hrs, z4, z5, z6, y2, y3, y4, y5] <;> rfl)); (first | refine pickT ?_ | refine pickF ?_ | fail_if_success with_reducible refine pickA ?_)) | ((with_reducible refine SC.draw Tab.mixed ?_ ?_); (focus (first | rfl | simp (disch := omega) only [go_sem, if_pos, hkl]))) | (with_reducible apply SC.ops)))
                refine hK3 _ (t + 1) ?_ (by omega) (by omega)
                (refine Le.slots ?_ ?_ ?_ <;> (repeat' (first | (exact fun _ _ h => h) | exact Nat.le_refl _ | exact leSl_nil | refine leSl_cons (by simp (disch := omega) only [go_sem, ↓reduceIte, zn1, reduceCtorEq] <;> rfl) ?_ ?_ | exact VLe.junk _ | exact VLe.refl rfl | exact VLe.nil_sl _ _ _ | exact VLe.int (by first | rfl | omega | (dsimp only; omega)) | exact VLe.bool rfl | exact VLe.sl rfl (by first | rfl | omega) | exact VLe.cap rfl (by first | rfl | omega) | exact VLe.im rfl rfl | omega | (refine fun id k h => ?_; simp only [hget] at h ⊢; (repeat' (split at h)) <;> first | (cases h; done) | (simp (disch := omega) only [if_pos, if_neg]; exact h)))))
            · have htw : t = h := by omega
              have q1 := decide_eq_false (p := (h : Int) < (h : Int)) (by omega)
              rw [htw]
              unfold wkH workC
              (repeat (first | refine DO.nilF (fun i => i + 1 - nx) (by simp (disch := omega) only [go_sem, ↓reduceIte, zn1, zn2, zn3, zn4, zn5, zn6, reduceCtorEq, zn7, zi1, zi2, if_pos, if_neg, List.map_cons, List.map_nil, Option.map_some, Option.map_none, Nat.add_sub_cancel_left, Nat.sub_eq_zero_of_le, Nat.add_assoc, zn4] <;> rfl) (by kernel_rfl) ?_ | (with_reducible first | apply oz1 | apply oz2 | apply oz3 | apply oz4 | apply oz5 | apply oz6 | apply oz7 | apply oz8 | apply oz9 | apply ozb | apply ozc | apply oze | apply ozf | apply ozg | apply ozh | apply ozi | apply ozj | apply ozk | refine ozd (by decide) ?_) | ((first | apply SO.call | apply DO.call); (iterate 3 (focus (simp (disch := omega) only [go_sem, ↓reduceIte, zn1, zn2, zn3, zn4, zn5, zn6, reduceCtorEq, zn7, zi1, zi2, if_pos, if_neg, q1, z1, z2, z3, z4, z5, z6] <;> rfl))); (first | apply SCall.ofX | apply DCall.ofX); (focus (first | assumption)); (focus (simp (disch := omega) only [go_sem, ↓reduceIte, zn1, zn2, zn3, zn4, zn5, zn6, reduceCtorEq, zn7, zi1, zi2, if_pos, if_neg, q1, z1, z2, z3, z4, z5, z6] <;> rfl))) | ((with_reducible first | apply SC.condB | apply SC.region | apply SO.run | apply DO.run); (focus (simp (disch := omega) only [go_sem, ↓reduceIte, zn1, reduceCtorEq, q1] <;> rfl)); (first | refine pickT ?_ | refine pickF ?_ | fail_if_success with_reducible refine pickA ?_)) | ((with_reducible refine SC.draw Tab.mixed ?_ ?_); (focus (first | rfl | simp (disch := omega) only [go_sem, ↓reduceIte, zn1, zn2, zn3, zn4, zn5, zn6, reduceCtorEq, zn7, zi1, zi2, if_pos, if_neg, q1, z1, z2, z3, z4, z5, z6]))) | (with_reducible apply SC.ops)))
              refine retIQ_normal (rs := []) (.tu []) (wkH p oM oU oV h w a b c (colNeg h i h X)) nx Try.results52 rfl ⟨rfl, rfl, rfl⟩ ?_
              refine Le.wkDown ⟨nx, hB, Nat.le_refl _⟩ hI (fun id q hq => hq) ?_
              exact mapSl_cons rfl VMap.tu0 trivial
end Go.Proofs.Ytfhcmibgpddggaa
namespace Go.Proofs.Ytfhcmibgpddggaa
open Go.RowKit
def swpR (i j : Nat) (row : List Int) : List Int := (row.set i (row.getD j 0)).set j (row.getD i 0)
theorem swpR_len {i j : Nat} {row : List Int} : (swpR i j row).length = row.length := by simp [swpR]
theorem swpR_get {i j t : Nat} {row : List Int} (hi : i < row.length) (hj : j < row.length) : (swpR i j row).getD t 0 = if t = j then row.getD i 0 else if t = i then row.getD j 0 else row.getD t 0 := by
  unfold swpR
  rw [getD_set (by rw [List.length_set]; exact hj), getD_set hi]
def colSwp (h i j r : Nat) (W : List (List Int)) : List (List Int) := W.mapIdx fun q row => if 2 * h ≤ q ∧ q < 2 * h + r then swpR i j row else row
theorem colSwp_len {h i j r : Nat} {W : List (List Int)} : (colSwp h i j r W).length = W.length := by simp [colSwp]
theorem colSwp_get {h i j r q : Nat} {W : List (List Int)} (hq : q < W.length) : (colSwp h i j r W).getD q [] = if 2 * h ≤ q ∧ q < 2 * h + r then swpR i j (W.getD q []) else W.getD q [] := by
  unfold colSwp
  rw [List.getD_eq_getElem?_getD, List.getElem?_mapIdx, getD_get' (d := []) hq]; rfl
theorem colSwp_zero {h i j : Nat} {W : List (List Int)} : colSwp h i j 0 W = W := rows_ext colSwp_len fun q hq => by
  rw [colSwp_len] at hq
  rw [colSwp_get hq, if_neg (by omega)]
theorem colSwp_set {h i j r : Nat} {W : List (List Int)} (hr : 2 * h + r < W.length) : (colSwp h i j r W).set (2 * h + r) (swpR i j (W.getD (2 * h + r) [])) = colSwp h i j (r + 1) W := by
  refine rows_ext (by rw [List.length_set, colSwp_len, colSwp_len]) fun q hq => ?_
  rw [List.length_set, colSwp_len] at hq
  rw [getD_set (by rw [colSwp_len]; exact hr), colSwp_get hq, colSwp_get hq]
  by_cases e : q = 2 * h + r
  · rw [if_pos e, if_pos (by omega), e]
  · rw [if_neg e]
    by_cases e2 : 2 * h ≤ q ∧ q < 2 * h + r
    · rw [if_pos e2, if_pos (by omega)]
    · rw [if_neg e2, if_neg (by omega)]
def swapW (h i j : Nat) (W : List (List Int)) : List (List Int) := swapI (swapI (colSwp h i j h W) i j) (h + i) (h + j)
theorem WI.swapI {h w K q t : Nat} {W : List (List Int)} (hW : WI h w K W) (hq : q < 3 * h) (ht : t < 3 * h) (he : (q < h ∧ t < h) ∨ (h ≤ q ∧ h ≤ t)) : WI h w K (swapI W q t) := by
  have hl := hW.len
  have e := fun k => swapI_get (M := W) (i := q) (j := t) (by omega) (by omega) k
  refine ⟨by rw [swapI_len]; exact hl, fun k hk => ?_, fun k h1 h2 => ?_, fun k s => ?_⟩
  · rw [e]
    split
    · exact hW.rowM q (by omega)
    · split
      · exact hW.rowM t (by omega)
      · exact hW.rowM k hk
  · rw [e]
    split
    · exact hW.rowU q (by omega) hq
    · split
      · exact hW.rowU t (by omega) ht
      · exact hW.rowU k h1 h2
  · rw [e]
    split
    · exact hW.fit q s
    · split
      · exact hW.fit t s
      · exact hW.fit k s
theorem swapW_wi {h w K i j : Nat} {W : List (List Int)} (hW : WI h w K W) (hi : i < h) (hj : j < h) : WI h w K (swapW h i j W) := by
  have hl := hW.len
  have h1 : WI h w K (colSwp h i j h W) := by
    refine ⟨by rw [colSwp_len]; exact hl, fun q hq => ?_, fun q h3 h4 => ?_, fun q t => ?_⟩
    · rw [colSwp_get (by omega), if_neg (by omega)]; exact hW.rowM q hq
    · rw [colSwp_get (by omega)]
      split
      · rw [swpR_len]; exact hW.rowU q h3 h4
      · exact hW.rowU q h3 h4
    · by_cases hq : q < 3 * h
      · rw [colSwp_get (by omega)]
        split
        · rename_i hc
          have hrl := hW.rowU q (by omega) hq
          rw [swpR_get (by omega) (by omega)]
          split
          · exact hW.fit q i
          · split
            · exact hW.fit q j
            · exact hW.fit q t
        · exact hW.fit q t
      · rw [List.getD_eq_getElem?_getD (l := colSwp _ _ _ _ _), List.getElem?_eq_none (by rw [colSwp_len]; omega)]
        exact fits0
  exact (h1.swapI (by omega) (by omega) (by omega)).swapI (by omega) (by omega) (by omega)
theorem swapN_app1 {a b : List Nat} {i j : Nat} (hi : i < a.length) (hj : j < a.length) : swapN (a ++ b) i j = swapN a i j ++ b := by
  unfold swapN
  rw [List.set_append_left _ _ hi, List.set_append_left _ _ (by rw [List.length_set]; exact hj), getD_app1 hi, getD_app1 hj]
theorem swapN_app2 {a b : List Nat} {i j : Nat} : swapN (a ++ b) (a.length + i) (a.length + j) = a ++ swapN b i j := by
  unfold swapN
  rw [List.set_append_right _ _ (by omega), List.set_append_right _ _ (by omega), getD_app2, getD_app2, Nat.add_sub_cancel_left, Nat.add_sub_cancel_left]
theorem swapN_len {a : List Nat} {i j : Nat} : (swapN a i j).length = a.length := by simp [swapN]
section
variable {p oM oU oV h w K nx i j : Nat} {a b c : List Nat} {W : List (List Int)}
theorem WIds.swapL (hI : WIds p oM oU oV a b c h nx) (hi : i < h) (hj : j < h) : swapN (swapN (a ++ b ++ c) i j) (h + i) (h + j) = swapN a i j ++ swapN b i j ++ c := by
  have la := hI.la; have lb := hI.lb
  rw [List.append_assoc, swapN_app1 (by omega) (by omega)]
  have e := swapN_app2 (a := swapN a i j) (b := b ++ c) (i := i) (j := j)
  rw [swapN_len, la] at e
  rw [e, swapN_app1 (by omega) (by omega), List.append_assoc]
theorem nodup_swap {l : List Nat} {i j M : Nat} (hM : ∀ x ∈ l, x < M) (hl : l.Nodup) (hi : i < l.length) (hj : j < l.length) : (swapN l i j).Nodup ∧ ∀ x ∈ swapN l i j, x ∈ l := by
  have := Ids.swap (o := M) (ids0 := l) (ids := l) (n := l.length) (nx := M + 1) ⟨rfl, hl, fun _ h => h, fun x hx => by have := hM x hx; omega, by omega, fun hm => by have := hM M hm; omega⟩ hi hj
  exact ⟨this.nod, this.sub⟩
theorem WIds.swap (hI : WIds p oM oU oV a b c h nx) (hi : i < h) (hj : j < h) : WIds p oM oU oV (swapN a i j) (swapN b i j) c h nx := by
  have la := hI.la; have lb := hI.lb; have lc := hI.lc
  obtain ⟨z1, z2, z3, z4, z5, z6, n1, n2, n3, n4, n5⟩ := nodup_four hI.nod
  have hll : (a ++ b ++ c).length = 3 * h := by rw [List.length_append, List.length_append]; omega
  have lr : ∀ x ∈ a ++ b ++ c, x < nx := fun x hx => hI.rng x (by simp only [List.mem_cons]; exact .inr (.inr (.inr (.inr hx))))
  have s1 := nodup_swap (i := i) (j := j) lr n5 (by omega) (by omega)
  have s2 := nodup_swap (i := h + i) (j := h + j) (fun x hx => lr x (s1.2 x hx)) s1.1 (by rw [swapN_len]; omega) (by rw [swapN_len]; omega)
  rw [hI.swapL hi hj] at s2
  have sub : ∀ x ∈ swapN a i j ++ swapN b i j ++ c, x ∈ a ++ b ++ c := fun x hx => s1.2 x (s2.2 x hx)
  refine ⟨by rw [swapN_len]; exact la, by rw [swapN_len]; exact lb, lc, ?_, fun x hx => ?_⟩
  · simp only [List.nodup_cons, List.mem_cons, not_or]
    exact ⟨⟨z1, z2, z3, fun hm => n1 (sub _ hm)⟩, ⟨z4, z5, fun hm => n2 (sub _ hm)⟩, ⟨z6, fun hm => n3 (sub _ hm)⟩, fun hm => n4 (sub _ hm), s2.1⟩
  · simp only [List.mem_cons] at hx
    rcases hx with rfl | rfl | rfl | rfl | hx
    · exact hI.rng _ (by simp)
    · exact hI.rng _ (by simp)
    · exact hI.rng _ (by simp)
    · exact hI.rng _ (by simp)
    · exact hI.rng _ (by simp only [List.mem_cons]; exact .inr (.inr (.inr (.inr (sub x hx)))))
def wkX (p oM oU oV h w : Nat) (a b c l : List Nat) (W : List (List Int)) : List (Nat × Blk) :=
  (p, ⟨93, workC h w oM oU oV, false⟩) :: (oM, ⟨72, slR 2 w a, false⟩) :: (oU, ⟨72, slR 2 h b, false⟩) :: (oV, ⟨72, slR 2 h c, false⟩) :: rowsH 54 l (rI W)
theorem Le.wkXDown {B : Base} {sl sl' : List (Nat × V)} {hp : List (Nat × Blk)} {nx1 nt : Nat} {l : List Nat} (hB : ∃ m, B.Old m ∧ m ≤ nx) (l2 : oM < nx) (l3 : oU < nx) (l4 : oV < nx) (ra : ∀ i ∈ a, i < nx) (rb : ∀ i ∈ b, i < nx) (rc : ∀ i ∈ c, i < nx)
    (hs : ∀ id k, hget (wkX p oM oU oV h w a b c l W) id = some k → hget hp id = some k) (h1 : mapSl (fun i => i) (fun i => i < nx) sl sl') :
    Le B ⟨sl, hp, nx1, nt⟩ ⟨sl', wkX p oM oU oV h w a b c l W, nx, nt⟩ := by
  obtain ⟨m0, hB, hm0⟩ := hB
  refine Le.map (fun i => i) (fun i => i < nx) hB (fun i hi => ⟨by omega, rfl⟩) (fun i h => h) (fun i j _ _ e => e) h1 (fun i k' hk' hlt => ?_)
  rw [hs i k' hk']
  unfold wkX at hk'
  simp only [hget] at hk'
  split at hk'
  · cases hk'
    exact BMap.list (mapL_cons (VMap.sc _) (mapL_cons (VMap.sc _) (mapL_cons (VMap.sl rfl l2) (mapL_cons (VMap.sc _) (mapL_cons (VMap.sc _) (mapL_cons (VMap.sl rfl l3) (mapL_cons (VMap.sc _) (mapL_cons (VMap.sc _) (mapL_cons (VMap.sl rfl l4) mapL_nil)))))))))
  split at hk'
  · cases hk'
    refine ⟨_, rfl, rfl, rfl, fun j y hy => ⟨y, hy, ?_⟩⟩
    obtain ⟨q, hq, rfl⟩ := List.mem_map.1 (List.mem_of_getElem? hy)
    exact VMap.sl rfl (ra q hq)
  split at hk'
  · cases hk'
    refine ⟨_, rfl, rfl, rfl, fun j y hy => ⟨y, hy, ?_⟩⟩
    obtain ⟨q, hq, rfl⟩ := List.mem_map.1 (List.mem_of_getElem? hy)
    exact VMap.sl rfl (rb q hq)
  split at hk'
  · cases hk'
    refine ⟨_, rfl, rfl, rfl, fun j y hy => ⟨y, hy, ?_⟩⟩
    obtain ⟨q, hq, rfl⟩ := List.mem_map.1 (List.mem_of_getElem? hy)
    exact VMap.sl rfl (rc q hq)
  · obtain ⟨q, q1, q2, q3, rfl⟩ := rows_inv hk'
    exact BMap.clo (rI_clo W _ (by rw [List.getD_eq_getElem?_getD, List.getElem?_eq_getElem q2]; exact List.getElem_mem q2))
theorem wkX_lt {l : List Nat} (h1 : p < nx) (h2 : oM < nx) (h3 : oU < nx) (h4 : oV < nx) (hr : ∀ i ∈ l, i < nx) : ∀ id k, hget (wkX p oM oU oV h w a b c l W) id = some k → id < nx := by
  intro id k hk
  unfold wkX at hk
  simp only [hget] at hk
  split at hk
  · omega
  split at hk
  · omega
  split at hk
  · omega
  split at hk
  · omega
  · obtain ⟨q, q1, _, q3, _⟩ := rows_inv hk
    rw [← q3]; exact hr _ (getD_mem' q1)
theorem wkX_swap (hI : WIds p oM oU oV a b c h nx) (hi : i < h) (hj : j < h) (hl : W.length = 3 * h) : ∀ id k, hget (wkH p oM oU oV h w (swapN a i j) (swapN b i j) c (Go.Proofs.Ytfhcmibgpddggaa.swapI (Go.Proofs.Ytfhcmibgpddggaa.swapI W i j) (h + i) (h + j))) id = some k → hget (wkX p oM oU oV h w (swapN a i j) (swapN b i j) c (a ++ b ++ c) W) id = some k := by
  have la := hI.la; have lb := hI.lb; have lc := hI.lc
  obtain ⟨_, _, _, _, _, _, _, _, _, _, n5⟩ := nodup_four hI.nod
  have hll : (a ++ b ++ c).length = 3 * h := by rw [List.length_append, List.length_append]; omega
  have lr : ∀ x ∈ a ++ b ++ c, x < nx := fun x hx => hI.rng x (by simp only [List.mem_cons]; exact .inr (.inr (.inr (.inr hx))))
  have s1 := nodup_swap (i := i) (j := j) lr n5 (by omega) (by omega)
  have r1 := rowsI_swap (ty := 54) (ids := a ++ b ++ c) (M := W) (k := i) (q := j) n5 (by omega) (by omega) (by omega)
  have r2 := rowsI_swap (ty := 54) (ids := swapN (a ++ b ++ c) i j) (M := Go.Proofs.Ytfhcmibgpddggaa.swapI W i j) (k := h + i) (q := h + j) s1.1 (by rw [swapN_len, swapI_len]; omega) (by rw [swapN_len]; omega) (by rw [swapN_len]; omega)
  rw [hI.swapL hi hj] at r2
  intro id k hk
  unfold wkH at hk
  unfold wkX
  simp only [hget] at hk ⊢
  by_cases c1 : id = p
  · rw [if_pos c1] at hk ⊢; exact hk
  rw [if_neg c1] at hk ⊢
  by_cases c2 : id = oM
  · rw [if_pos c2] at hk ⊢; exact hk
  rw [if_neg c2] at hk ⊢
  by_cases c3 : id = oU
  · rw [if_pos c3] at hk ⊢; exact hk
  rw [if_neg c3] at hk ⊢
  by_cases c4 : id = oV
  · rw [if_pos c4] at hk ⊢; exact hk
  rw [if_neg c4] at hk ⊢
  exact r1 id k (r2 id k hk)
end
set_option maxHeartbeats 16000000 in
set_option maxRecDepth 8000 in
theorem swap_q {h w K p oM oU oV nx i j : Nat} {a b c : List Nat} {W : List (List Int)} (hW : WI h w K W) (hI : WIds p oM oU oV a b c h nx) (hi : i < h) (hj : j < h) (hn : h ≤ 1000000) (hw : w ≤ 1000000) :
    InlQ Try.prog 51 [.pt p 0, .sc (.int .i64 i), .sc (.int .i64 j)] (wkH p oM oU oV h w a b c W) nx (fun x hp' nx' => x = .tu [] ∧ nx' = nx ∧ hp' = wkH p oM oU oV h w (swapN a i j) (swapN b i j) c (swapW h i j W)) := by
  have hl := hW.len
  obtain ⟨l1, l2, l3, l4⟩ := hI.lts
  have v1 : p + 1 - nx = 0 := by omega
  have v2 : oM + 1 - nx = 0 := by omega
  have v3 : oU + 1 - nx = 0 := by omega
  have v4 : oV + 1 - nx = 0 := by omega
  obtain ⟨z1, z2, z3, z4, z5, z6⟩ := hI.nes
  have la := hI.la
  have lb := hI.lb
  have lc := hI.lc
  have ga := slR_len 2 w a
  have gb := slR_len 2 h b
  have gc := slR_len 2 h c
  rw [la] at ga
  rw [lb] at gb
  rw [lc] at gc
  have hI2 := hI.swap hi hj
  have lr : ∀ x ∈ a ++ b ++ c, x < nx := fun x hx => hI.rng x (by simp only [List.mem_cons]; exact .inr (.inr (.inr (.inr hx))))
  have lr2 : ∀ x ∈ swapN a i j ++ swapN b i j ++ c, x < nx := fun x hx => hI2.rng x (by simp only [List.mem_cons]; exact .inr (.inr (.inr (.inr hx))))
  have ra : ∀ x ∈ swapN a i j, x < nx := fun x hx => lr2 x (List.mem_append_left _ (List.mem_append_left _ hx))
  have rb : ∀ x ∈ swapN b i j, x < nx := fun x hx => lr2 x (List.mem_append_left _ (List.mem_append_right _ hx))
  have rc : ∀ x ∈ c, x < nx := fun x hx => lr2 x (List.mem_append_right _ hx)
  have gai := slR_get (z := 2) (m := w) (ids := a) (k := i) (by omega)
  have gaj := slR_get (z := 2) (m := w) (ids := a) (k := j) (by omega)
  have gbi := slR_get (z := 2) (m := h) (ids := b) (k := i) (by omega)
  have gbj := slR_get (z := 2) (m := h) (ids := b) (k := j) (by omega)
  have hsa : (a.set i (a.getD j 0)).set j (a.getD i 0) = swapN a i j := rfl
  have hsb : (b.set i (b.getD j 0)).set j (b.getD i 0) = swapN b i j := rfl
  have hkl := hI.kl (W := W) (m := nx) (Nat.le_refl _)
  refine InlQ.run Try.func51 rfl Try.ntmps51 (by simp) (by unfold wkH workC; simp (disch := omega) only [go_sem, zn4]; rfl) fun B hB => ?_
  (repeat (first | refine DO.nilF (fun i => i + 1 - nx) (by simp (disch := omega) only [go_sem, List.map_cons, List.map_nil, Option.map_some, Option.map_none, Nat.sub_eq_zero_of_le] <;> rfl) (by kernel_rfl) ?_ | (with_reducible first | apply oz1 | apply oz2 | apply oz3 | apply oz4 | apply oz5 | apply oz6 | apply oz7 | apply oz8 | apply oz9 | apply ozb | apply ozc | apply oze | apply ozf | apply ozg | apply ozh | apply ozi | apply ozj | apply ozk | refine ozd (by decide) ?_) | ((first | apply SO.call | apply DO.call); (iterate 3 (focus (simp (disch := omega) only [go_sem, ↓reduceIte, zn1, zn2, zn3, zn4, zn5, zn6, reduceCtorEq, zn7, zi1, zi2, if_pos, if_neg, ga, gb, gc, gai, gaj, gbi, gbj, slR_set, slR_len, List.length_set, la, lb, lc, hsa, hsb, hkl, z1, z2, z3, z4, z5, z6] <;> rfl))); (first | apply SCall.ofX | apply DCall.ofX); (focus (first | assumption)); (focus (simp (disch := omega) only [go_sem, ↓reduceIte, zn1, zn2, zn3, zn4, zn5, zn6, reduceCtorEq, zn7, zi1, zi2, if_pos, if_neg, ga, gb, gc, gai, gaj, gbi, gbj, slR_set, slR_len, List.length_set, la, lb, lc, hsa, hsb, hkl, z1, z2, z3, z4, z5, z6] <;> rfl))) | ((with_reducible first | apply SC.condB | apply SC.region | apply SO.run | apply DO.run); (focus (simp (disch := omega) only [go_sem, ↓reduceIte, zn1, zn4, reduceCtorEq, if_pos, ga, gb, gai, gaj, gbi, gbj, slR_set, slR_len, List.length_set, la, lb, hsa, hsb, z1, z2, z3] <;> rfl)); (first | refine pickT ?_ | refine pickF ?_ | fail_if_success with_reducible refine pickA ?_)) | ((with_reducible refine SC.draw Tab.mixed ?_ ?_); (focus (first | rfl | simp (disch := omega) only [go_sem, if_pos, hkl]))) | (with_reducible apply SC.ops)))
  have eW : colSwp h i j 0 W = W := colSwp_zero
  refine SC.loop (fun t : Nat => ⟨[(0, .pt p 0), (1, .sc (.int .i64 i)), (2, .sc (.int .i64 j)), (7, .sc (.int .i64 t))], wkX p oM oU oV h w (swapN a i j) (swapN b i j) c (a ++ b ++ c) (colSwp h i j t W), nx, 123⟩)
    (fun t => t ≤ h) (fun t => h - t) 0 ?_ ?_ ?_
  · rw [eW]
    unfold wkX workC
    (refine Le.slots ?_ ?_ ?_ <;> (repeat' (first | (exact fun _ _ h => h) | exact Nat.le_refl _ | exact leSl_nil | refine leSl_cons (by simp (disch := omega) only [go_sem, ↓reduceIte, zn1, reduceCtorEq] <;> rfl) ?_ ?_ | exact VLe.junk _ | exact VLe.refl rfl | exact VLe.nil_sl _ _ _ | exact VLe.int (by first | rfl | omega | (dsimp only; omega)) | exact VLe.bool rfl | exact VLe.sl rfl (by first | rfl | omega) | exact VLe.cap rfl (by first | rfl | omega) | exact VLe.im rfl rfl | omega | (refine fun id k h => ?_; simp only [hget] at h ⊢; (repeat' (split at h)) <;> first | (cases h; done) | (simp (disch := omega) only [if_pos, if_neg]; exact h)))))
  · exact Nat.zero_le _
  · intro t ht K3 hK3
    by_cases hc : t < h
    · as_aux_lemma =>
        have q1 := decide_eq_true (p := (t : Int) < (h : Int)) (by omega)
        have hrl : (W.getD (2 * h + t) []).length = h := hW.rowU (2 * h + t) (by omega) (by omega)
        have hWl : (colSwp h i j t W).length = 3 * h := by rw [colSwp_len]; exact hl
        have gi := slR_get (z := 2) (m := h) (ids := c) (k := t) (by omega)
        obtain ⟨gR, y1, y2, y3, y4, y5⟩ := hI.rowF hWl (q := 2 * h + t) (by omega)
        rw [colSwp_get (by omega), if_neg (by omega)] at gR
        have gl := ivR_len (W.getD (2 * h + t) [])
        rw [hrl] at gl
        have gd := ivR_drop (l := W.getD (2 * h + t) []) (i := i) (by omega)
        have gdj := ivR_drop (l := W.getD (2 * h + t) []) (i := j) (by omega)
        have gs := ivR_set (l := W.getD (2 * h + t) []) (i := i) ((W.getD (2 * h + t) []).getD j 0) (by omega)
        have gs2 := ivR_set (l := (W.getD (2 * h + t) []).set i ((W.getD (2 * h + t) []).getD j 0)) (i := j) ((W.getD (2 * h + t) []).getD i 0) (by rw [List.length_set]; omega)
        have gl2 := ivR_len ((W.getD (2 * h + t) []).set i ((W.getD (2 * h + t) []).getD j 0))
        rw [List.length_set, hrl] at gl2
        have hrs := hI.rset hWl (q := 2 * h + t) (by omega) ((W.getD (2 * h + t) []).set i ((W.getD (2 * h + t) []).getD j 0))
        have hWl2 : ((colSwp h i j t W).set (2 * h + t) ((W.getD (2 * h + t) []).set i ((W.getD (2 * h + t) []).getD j 0))).length = 3 * h := by rw [List.length_set]; exact hWl
        have gR2 := (hI.rowF hWl2 (q := 2 * h + t) (by omega)).1
        rw [getD_set (by omega), if_pos rfl] at gR2
        have hrs2 := hI.rset hWl2 (q := 2 * h + t) (by omega) (((W.getD (2 * h + t) []).set i ((W.getD (2 * h + t) []).getD j 0)).set j ((W.getD (2 * h + t) []).getD i 0))
        have hcs := colSwp_set (h := h) (i := i) (j := j) (r := t) (W := W) (by omega)
        unfold swpR at hcs
        rw [List.set_set, hcs] at hrs2
        have hkl := hI.kl (W := colSwp h i j t W) (m := nx + 1) (by omega)
        have hkl2 := hI.kl (W := (colSwp h i j t W).set (2 * h + t) ((W.getD (2 * h + t) []).set i ((W.getD (2 * h + t) []).getD j 0))) (m := nx + 1) (by omega)
        rw [hI.iV] at gR gR2 y1 y2 y3 y4 y5 hrs hrs2
        have v5 : c.getD t 0 + 1 - nx = 0 := Nat.sub_eq_zero_of_le y1
        have gla := slR_len 2 w (swapN a i j)
        have glb := slR_len 2 h (swapN b i j)
        rw [swapN_len, la] at gla
        rw [swapN_len, lb] at glb
        have hsame : ∀ id k, hget (wkX p oM oU oV h w (swapN a i j) (swapN b i j) c (a ++ b ++ c) (colSwp h i j (t + 1) W)) id = some k → id < nx := wkX_lt l1 l2 l3 l4 lr
        clear hcs hWl2
        unfold wkX workC
        generalize (ivR (W.getD (2 * h + t) [])).drop ((i + 1) * 2) = Di at *
        generalize (ivR (W.getD (2 * h + t) [])).drop ((j + 1) * 2) = Dj at *
        generalize hA : ivR (W.getD (2 * h + t) []) = A at *
        generalize hA2 : ivR (((W.getD (2 * h + t) []).set i ((W.getD (2 * h + t) []).getD j 0)).set j ((W.getD (2 * h + t) []).getD i 0)) = A2 at *
        generalize hA1 : ivR ((W.getD (2 * h + t) []).set i ((W.getD (2 * h + t) []).getD j 0)) = A1 at *
        generalize hH1 : rowsH 54 (a ++ b ++ c) (rI ((colSwp h i j t W).set (2 * h + t) ((W.getD (2 * h + t) []).set i ((W.getD (2 * h + t) []).getD j 0)))) = H1 at *
        generalize (W.getD (2 * h + t) []).getD i 0 = x at *
        generalize (W.getD (2 * h + t) []).getD j 0 = y at *
        generalize hH : rowsH 54 (a ++ b ++ c) (rI (colSwp h i j t W)) = H at *
        generalize c.getD t 0 = idk at *
        unfold ivC sv at gd gs gdj gs2
        simp only [List.cons_append, List.nil_append] at gd gdj
        have g2 : i * 2 < A.length := by omega
        have g2j : j * 2 < A.length := by omega
        have g3j : j * 2 < A1.length := by omega
        (repeat (first | refine DO.nilF (fun i => i + 1 - nx) (by simp (disch := omega) only [go_sem, List.map_cons, List.map_nil, Option.map_some, Option.map_none, Nat.add_sub_cancel_left, Nat.sub_eq_zero_of_le] <;> rfl) (by kernel_rfl) ?_ | (with_reducible first | apply oz1 | apply oz2 | apply oz3 | apply oz4 | apply oz5 | apply oz6 | apply oz7 | apply oz8 | apply oz9 | apply ozb | apply ozc | apply oze | apply ozf | apply ozg | apply ozh | apply ozi | apply ozj | apply ozk | refine ozd (by decide) ?_) | ((first | apply SO.call | apply DO.call); (iterate 3 (focus (simp (disch := omega) only [go_sem, ↓reduceIte, zn1, zn2, zn3, zn4, zn5, zn6, reduceCtorEq, zn7, zi1, zi2, if_pos, if_neg, q1, gla, glb, gc, gi, gR, gR2, gl, gl2, gd, gdj, gs, gs2, g2, g2j, g3j, hrs, hrs2, hkl, hkl2, z1, z2, z3, z4, z5, z6, y2, y3, y4, y5] <;> rfl))); (first | apply SCall.ofX | apply DCall.ofX); (focus (first | assumption)); (focus (simp (disch := omega) only [go_sem, ↓reduceIte, zn1, zn2, zn3, zn4, zn5, zn6, reduceCtorEq, zn7, zi1, zi2, if_pos, if_neg, q1, gla, glb, gc, gi, gR, gR2, gl, gl2, gd, gdj, gs, gs2, g2, g2j, g3j, hrs, hrs2, hkl, hkl2, z1, z2, z3, z4, z5, z6, y2, y3, y4, y5] <;> rfl))) | ((with_reducible first | apply SC.condB | apply SC.region | apply SO.run | apply DO.run); (focus (simp (disch := omega) only [go_sem, ↓reduceIte, zn1, zn2, zn3, zn4, reduceCtorEq, if_pos, if_neg, q1, gi, gR, gR2, gl, gl2, gd, gdj, gs, gs2, hrs, hrs2, z4, z5, z6, y2, y3, y4, y5] <;> rfl)); (first | refine pickT ?_ | refine pickF ?_ | fail_if_success with_reducible refine pickA ?_)) | ((with_reducible refine SC.draw Tab.mixed ?_ ?_); (focus (first | rfl | simp (disch := omega) only [go_sem, ↓reduceIte, if_pos, hkl, hkl2]))) | (with_reducible apply SC.ops)))
        refine hK3 _ (t + 1) ?_ (by omega) (by omega)
        refine Le.wkXDown ⟨nx, hB, Nat.le_refl _⟩ l2 l3 l4 ra rb rc (less_new (fun id q hq => hq) fun id q hq => Nat.ne_of_lt (hsame id q hq)) ?_
        (repeat' (first | exact trivial | refine mapSl_cons (by simp (disch := omega) only [go_sem, ↓reduceIte, zn1, reduceCtorEq] <;> rfl) ?_ ?_ | exact VMap.junk _ | exact VMap.sc _ | exact VMap.clo rfl | exact VMap.sl rfl (by omega) | exact VMap.cap rfl (by omega) | exact VMap.pt rfl (by omega) | exact VMap.nil_sl _ _ _ | exact VMap.int (by first | rfl | omega | (dsimp only; omega))))
    · have htw : t = h := by omega
      have q1 := decide_eq_false (p := (h : Int) < (h : Int)) (by omega)
      rw [htw]
      unfold wkX workC
      (repeat (first | refine DO.nilF (fun i => i + 1 - nx) (by simp (disch := omega) only [go_sem, ↓reduceIte, zn1, zn2, zn3, zn4, zn5, zn6, reduceCtorEq, zn7, zi1, zi2, if_pos, if_neg, List.map_cons, List.map_nil, Option.map_some, Option.map_none, Nat.add_sub_cancel_left, Nat.sub_eq_zero_of_le, Nat.add_assoc, zn4] <;> rfl) (by kernel_rfl) ?_ | (with_reducible first | apply oz1 | apply oz2 | apply oz3 | apply oz4 | apply oz5 | apply oz6 | apply oz7 | apply oz8 | apply oz9 | apply ozb | apply ozc | apply oze | apply ozf | apply ozg | apply ozh | apply ozi | apply ozj | apply ozk | refine ozd (by decide) ?_) | ((first | apply SO.call | apply DO.call); (iterate 3 (focus (simp (disch := omega) only [go_sem, ↓reduceIte, zn1, zn2, zn3, zn4, zn5, zn6, reduceCtorEq, zn7, zi1, zi2, if_pos, if_neg, q1, z1, z2, z3, z4, z5, z6] <;> rfl))); (first | apply SCall.ofX | apply DCall.ofX); (focus (first | assumption)); (focus (simp (disch := omega) only [go_sem, ↓reduceIte, zn1, zn2, zn3, zn4, zn5, zn6, reduceCtorEq, zn7, zi1, zi2, if_pos, if_neg, q1, z1, z2, z3, z4, z5, z6] <;> rfl))) | ((with_reducible first | apply SC.condB | apply SC.region | apply SO.run | apply DO.run); (focus (simp (disch := omega) only [go_sem, ↓reduceIte, zn1, reduceCtorEq, q1] <;> rfl)); (first | refine pickT ?_ | refine pickF ?_ | fail_if_success with_reducible refine pickA ?_)) | ((with_reducible refine SC.draw Tab.mixed ?_ ?_); (focus (first | rfl | simp (disch := omega) only [go_sem, ↓reduceIte, zn1, zn2, zn3, zn4, zn5, zn6, reduceCtorEq, zn7, zi1, zi2, if_pos, if_neg, q1, z1, z2, z3, z4, z5, z6]))) | (with_reducible apply SC.ops)))
      refine retIQ_normal (rs := []) (.tu []) (wkH p oM oU oV h w (swapN a i j) (swapN b i j) c (swapW h i j W)) nx Try.results51 rfl ⟨rfl, rfl, rfl⟩ ?_
      refine Le.wkDown ⟨nx, hB, Nat.le_refl _⟩ hI2 (wkX_swap hI hi hj (by rw [colSwp_len]; exact hl)) ?_
      exact mapSl_cons rfl VMap.tu0 trivial
end Go.Proofs.Ytfhcmibgpddggaa
namespace Go.Proofs.Ytfhcmibgpddggaa
open Go.RowKit
def actW (h : Nat) (W : List (List Int)) (o : OpL) : List (List Int) := if o.kd = 1 then swapW h o.i o.j W else if o.kd = 2 then negW h o.i W else addW h o.i o.j o.k W
def actsW (h : Nat) : List (List Int) → List OpL → List (List Int)
  | W, [] => W
  | W, o :: l => actsW h (actW h W o) l
theorem take_get {M : List (List Int)} {h q : Nat} (hq : q < h) : (M.take h).getD q [] = M.getD q [] := by
  rw [List.getD_eq_getElem?_getD, List.getElem?_take_of_lt hq, List.getD_eq_getElem?_getD]
theorem WI.take {h w K : Nat} {W : List (List Int)} (hW : WI h w K W) : MI h w K (W.take h) := by
  have hl := hW.len
  have htl : (W.take h).length = h := by rw [List.length_take]; omega
  refine ⟨htl, fun r hr => ?_⟩
  obtain ⟨q, hq, rfl⟩ := List.mem_iff_getElem.1 hr
  have e : (W.take h)[q] = W.getD q [] := by
    rw [← take_get (M := W) (h := h) (by omega), List.getD_eq_getElem?_getD, List.getElem?_eq_getElem hq]; rfl
  rw [e]
  refine ⟨hW.rowM q (by omega), fun x hx => ?_⟩
  obtain ⟨t, ht, rfl⟩ := List.mem_iff_getElem.1 hx
  have := hW.fit q t
  rwa [List.getD_eq_getElem?_getD, List.getElem?_eq_getElem ht] at this
theorem actW_take {h w K n : Nat} {W : List (List Int)} (hW : WI h w K W) {o : OpL} (ho : OkOp n o) (hn : n = h) : (actW h W o).take h = actO (W.take h) o := by
  subst hn
  have hl := hW.len
  have hi := ho.i
  have htl : (W.take n).length = n := by rw [List.length_take]; omega
  refine rows_ext ?_ fun q hq => ?_
  · rw [actO_len, htl, List.length_take]
    unfold actW swapW negW addW
    split
    · rw [swapI_len, swapI_len, colSwp_len]; omega
    · split
      · rw [colNeg_len, List.length_set, List.length_set]; omega
      · rw [colPre_len, List.length_set, List.length_set]; omega
  · have hqn : q < n := by rw [List.length_take] at hq; omega
    rw [take_get hqn]
    unfold actW actO
    by_cases h1 : o.kd = 1
    · have hj : o.j < n := by rcases ho.c with ⟨_, hj, _⟩ | ⟨e, _⟩ | ⟨e, _⟩ <;> omega
      have e1 := swapI_get (M := W.take n) (i := o.i) (j := o.j) (by omega) (by omega) q
      have e2 := swapI_get (M := swapI (colSwp n o.i o.j n W) o.i o.j) (i := n + o.i) (j := n + o.j) (by rw [swapI_len, colSwp_len]; omega) (by rw [swapI_len, colSwp_len]; omega) q
      have e3 := swapI_get (M := colSwp n o.i o.j n W) (i := o.i) (j := o.j) (by rw [colSwp_len]; omega) (by rw [colSwp_len]; omega) q
      rw [if_pos h1, if_pos h1, e1]
      unfold swapW
      rw [e2, if_neg (by omega), if_neg (by omega), e3]
      have e4 : ∀ q, q < n → (colSwp n o.i o.j n W).getD q [] = W.getD q [] := fun q hq => by rw [colSwp_get (by omega), if_neg (by omega)]
      rw [e4 _ hi, e4 _ hj, e4 _ hqn, take_get hi, take_get hj, take_get hqn]
    · rw [if_neg h1, if_neg h1]
      by_cases h2 : o.kd = 2
      · rw [if_pos h2, if_pos h2, getD_set (by omega)]
        unfold negW
        rw [colNeg_get (by rw [List.length_set, List.length_set]; omega), if_neg (by omega), getD_set (by rw [List.length_set]; omega), if_neg (by omega), getD_set (by omega), take_get hi, take_get hqn]
      · have hj : o.j < n := by rcases ho.c with ⟨e, _⟩ | ⟨e, _⟩ | ⟨_, hj, _⟩ <;> omega
        rw [if_neg h2, if_neg h2, getD_set (by omega)]
        unfold addW
        rw [colPre_get (by rw [List.length_set, List.length_set]; omega), if_neg (by omega), getD_set (by rw [List.length_set]; omega), if_neg (by omega), getD_set (by omega), take_get hi, take_get hj, take_get hqn]
theorem actW_wi {h w K : Nat} {W : List (List Int)} (hW : WI h w K W) {o : OpL} (ho : OkOp h o) : WI h w (K + 2) (actW h W o) := by
  unfold actW
  split
  · rename_i h1
    have hj : o.j < h := by rcases ho.c with ⟨_, hj, _⟩ | ⟨e, _⟩ | ⟨e, _⟩ <;> omega
    exact (swapW_wi hW ho.i hj).mono (by omega)
  · split
    · exact (negW_wi hW ho.i).mono (by omega)
    · have hj : o.j < h := by rcases ho.c with ⟨e, _⟩ | ⟨e, _⟩ | ⟨_, hj, _⟩ <;> omega
      exact addW_wi hW ho.i hj ho.k
theorem actsW_take {h w : Nat} : ∀ {l : List OpL} {K : Nat} {W : List (List Int)}, WI h w K W → (∀ o ∈ l, OkOp h o) → (actsW h W l).take h = actsO (W.take h) l
  | [], _, _, _, _ => rfl
  | o :: l, K, W, hW, hl => by
    rw [actsW, actsO, ← actW_take hW (hl o (by simp)) rfl]
    exact actsW_take (actW_wi hW (hl o (by simp))) fun p hp => hl p (by simp [hp])
theorem actsW_drop {h i : Nat} {l : List OpL} {W : List (List Int)} (hi : i < l.length) : actsW h W (l.drop i) = actsW h (actW h W (l.getD i ⟨0, 0, 0, 0⟩)) (l.drop (i + 1)) := by
  rw [List.drop_eq_getElem_cons hi, actsW, List.getD_eq_getElem?_getD, List.getElem?_eq_getElem hi]; rfl
theorem work0_wi {h w K : Nat} {A : List (List Int)} (hA : MI h w K A) : WI h w (K + 1) (A ++ idL h ++ idL h) := by
  have hAl := hA.len
  have hI := mk_mi (h := h) (w := h) (K := 1) (f := fun r c => if r = c then (1 : Int) else 0) fun _ _ _ _ => fits01
  have hil : (idL h).length = h := mkM_len
  have fitI : ∀ q t, Fits (K + 1) (((idL h).getD q []).getD t 0) := by
    intro q t
    by_cases hq : q < h
    · by_cases ht : t < h
      · exact (hI.fit hq ht).mono (by omega)
      · have := (hI.get hq).1
        rw [List.getD_eq_getElem?_getD (l := (idL h).getD q []), List.getElem?_eq_none (by unfold idL; omega)]; exact fits0
    · rw [List.getD_eq_getElem?_getD (l := idL h), List.getElem?_eq_none (by omega)]
      simp only [Option.getD_none]
      exact fits0
  have rowI : ∀ q, q < h → ((idL h).getD q []).length = h := fun q hq => (hI.get hq).1
  have g1 : ∀ q, q < h → (A ++ idL h ++ idL h).getD q [] = A.getD q [] := fun q hq => by
    rw [List.getD_eq_getElem?_getD, List.append_assoc, List.getElem?_append_left (by omega), List.getD_eq_getElem?_getD]
  have g2 : ∀ q, h ≤ q → q < 2 * h → (A ++ idL h ++ idL h).getD q [] = (idL h).getD (q - h) [] := fun q h1 h2 => by
    rw [List.getD_eq_getElem?_getD, List.append_assoc, List.getElem?_append_right (by omega), List.getElem?_append_left (by omega), hAl, List.getD_eq_getElem?_getD]
  have g3 : ∀ q, 2 * h ≤ q → (A ++ idL h ++ idL h).getD q [] = (idL h).getD (q - 2 * h) [] := fun q h1 => by
    rw [List.getD_eq_getElem?_getD, List.getElem?_append_right (by rw [List.length_append]; omega), List.length_append, hAl, hil, ← Nat.two_mul, List.getD_eq_getElem?_getD]
  refine ⟨by rw [List.length_append, List.length_append]; omega, fun q hq => by rw [g1 q hq]; exact (hA.get hq).1, fun q h1 h2 => ?_, fun q t => ?_⟩
  · by_cases hq : q < 2 * h
    · rw [g2 q h1 hq]; exact rowI _ (by omega)
    · rw [g3 q (by omega)]; exact rowI _ (by omega)
  · by_cases hq : q < h
    · rw [g1 q hq]
      by_cases ht : t < w
      · exact (hA.fit hq ht).mono (by omega)
      · have := (hA.get hq).1
        rw [List.getD_eq_getElem?_getD (l := A.getD q []), List.getElem?_eq_none (by omega)]; exact fits0
    · by_cases hq2 : q < 2 * h
      · rw [g2 q (by omega) hq2]; exact fitI _ _
      · rw [g3 q (by omega)]; exact fitI _ _
theorem work0_take {h w K : Nat} {A : List (List Int)} (hA : MI h w K A) : (A ++ idL h ++ idL h).take h = A := by
  have hAl := hA.len
  rw [List.append_assoc, List.take_append_of_le_length (by omega), List.take_of_length_le (by omega)]
theorem inside_s (i n : Nat) : Spec Try.prog 76 [.sc (.int .i64 i), .sc (.int .i64 n)] (.sc (.bool (decide ((i : Int) < n)))) := by
  have q1 : decide ((0 : Int) ≤ (i : Int)) = true := decide_eq_true (by omega)
  refine Spec.run Try.func76 rfl Try.ntmps76 (by simp) (by simp (disch := omega) only [go_sem, zn4]; rfl) fun B hB => ?_
  (repeat (first | refine DO.nil (by kernel_rfl) ?_ | (with_reducible first | apply oz1 | apply oz2 | apply oz3 | apply oz4 | apply oz5 | apply oz6 | apply oz7 | apply oz8 | apply oz9 | apply ozb | apply ozc | apply oze | apply ozf | apply ozg | apply ozh | apply ozi | apply ozj | apply ozk | refine ozd (by decide) ?_) | ((first | apply SO.call | apply DO.call); (iterate 3 (focus (simp (disch := omega) only [go_sem, ↓reduceIte, zn1, zn2, zn3, zn4, zn5, zn6, reduceCtorEq, zn7, zi1, zi2, if_pos, if_neg, q1] <;> rfl))); (first | apply SCall.ofX | apply DCall.ofX); (focus (first | assumption)); (focus (simp (disch := omega) only [go_sem, ↓reduceIte, zn1, zn2, zn3, zn4, zn5, zn6, reduceCtorEq, zn7, zi1, zi2, if_pos, if_neg, q1] <;> rfl))) | ((with_reducible first | apply SC.condB | apply SC.region | apply SO.run | apply DO.run); (focus (simp (disch := omega) only [go_sem, ↓reduceIte, zn1, zn2, reduceCtorEq, q1] <;> rfl)); (first | refine pickT ?_ | refine pickF ?_ | fail_if_success with_reducible refine pickA ?_)) | ((with_reducible refine SC.draw Tab.mixed ?_ ?_); (focus (first | rfl | simp (disch := omega) only [go_sem, ↓reduceIte, zn1, zn2, zn3, zn4, zn5, zn6, reduceCtorEq, zn7, zi1, zi2, if_pos, if_neg, q1]))) | (with_reducible apply SC.ops)))
  exact retQ_ret Try.results76 (by simp (disch := omega) only [go_sem, ↓reduceIte] <;> rfl) (by simp (disch := omega) only [go_sem] <;> rfl) rfl
end Go.Proofs.Ytfhcmibgpddggaa
namespace Go.Proofs.Ytfhcmibgpddggaa
open Go.RowKit
theorem inT {i n : Nat} (h : i < n) : Spec Try.prog 76 [.sc (.int .i64 i), .sc (.int .i64 n)] (.sc (.bool true)) := by
  have := inside_s i n
  rwa [decide_eq_true (by omega)] at this
set_option maxHeartbeats 4000000 in
theorem lvalidop_s {n : Nat} {o : OpL} (ho : OkOp n o) : Spec Try.prog 46 [.ag (opC o), .sc (.int .i64 n)] (.sc (.bool true)) := by
  have hi := inT ho.i
  have c0 := rvalid_i o.k 1 ho.k (by omega)
  rcases ho.c with ⟨e, hj, hij, hk⟩ | ⟨e, hj, hk⟩ | ⟨e, hj, hij⟩
  · obtain ⟨kd, i, j, k⟩ := o
    simp only at e hj hij hk hi c0
    subst e; subst hk
    rw [opC_z]
    have c1 : Spec Try.prog 75 [.ag [.sc (.bool false), .im [] 0]] (.sc (.bool true)) := c0
    have hj' := inT hj
    have q1 : ((i : Int) != (j : Int)) = true := by simp; omega
    refine Spec.run Try.func46 rfl Try.ntmps46 (by simp) (by simp (disch := omega) only [go_sem, zn4]; rfl) fun B hB => ?_
    (repeat (first | refine DO.nil (by kernel_rfl) ?_ | (with_reducible first | apply oz1 | apply oz2 | apply oz3 | apply oz4 | apply oz5 | apply oz6 | apply oz7 | apply oz8 | apply oz9 | apply ozb | apply ozc | apply oze | apply ozf | apply ozg | apply ozh | apply ozi | apply ozj | apply ozk | refine ozd (by decide) ?_) | ((first | apply SO.call | apply DO.call); (iterate 3 (focus (simp (disch := omega) only [go_sem, ↓reduceIte, zn1] <;> rfl))); (first | apply SCall.ofX | apply DCall.ofX); (focus (first | assumption)); (focus (simp (disch := omega) only [go_sem] <;> rfl))) | ((with_reducible first | apply SC.condB | apply SC.region | apply SO.run | apply DO.run); (focus (simp (disch := omega) only [go_sem, ↓reduceIte, zn1, zn3, zn4, reduceCtorEq, q1] <;> rfl)); (first | refine pickT ?_ | refine pickF ?_ | fail_if_success with_reducible refine pickA ?_)) | ((with_reducible refine SC.draw Tab.mixed ?_ ?_); (focus (first | rfl | simp (disch := omega) only [go_sem, ↓reduceIte, zn1, zn2, zn3, zn4, zn5, zn6, reduceCtorEq, zn7, zi1, zi2, if_pos, if_neg, q1]))) | (with_reducible apply SC.ops)))
    exact retQ_ret Try.results46 (by simp (disch := omega) only [go_sem, ↓reduceIte] <;> rfl) (by simp (disch := omega) only [go_sem] <;> rfl) rfl
  · obtain ⟨kd, i, j, k⟩ := o
    simp only at e hj hk hi c0
    subst e; subst hk; subst hj
    rw [opC_z]
    have c1 : Spec Try.prog 75 [.ag [.sc (.bool false), .im [] 0]] (.sc (.bool true)) := c0
    refine Spec.run Try.func46 rfl Try.ntmps46 (by simp) (by simp (disch := omega) only [go_sem, zn4]; rfl) fun B hB => ?_
    (repeat (first | refine DO.nil (by kernel_rfl) ?_ | (with_reducible first | apply oz1 | apply oz2 | apply oz3 | apply oz4 | apply oz5 | apply oz6 | apply oz7 | apply oz8 | apply oz9 | apply ozb | apply ozc | apply oze | apply ozf | apply ozg | apply ozh | apply ozi | apply ozj | apply ozk | refine ozd (by decide) ?_) | ((first | apply SO.call | apply DO.call); (iterate 3 (focus (simp (disch := omega) only [go_sem, ↓reduceIte, zn1] <;> rfl))); (first | apply SCall.ofX | apply DCall.ofX); (focus (first | assumption)); (focus (simp (disch := omega) only [go_sem] <;> rfl))) | ((with_reducible first | apply SC.condB | apply SC.region | apply SO.run | apply DO.run); (focus (simp (disch := omega) only [go_sem, ↓reduceIte, zn1, zn3, zn4, reduceCtorEq] <;> rfl)); (first | refine pickT ?_ | refine pickF ?_ | fail_if_success with_reducible refine pickA ?_)) | ((with_reducible refine SC.draw Tab.mixed ?_ ?_); (focus (first | rfl | simp (disch := omega) only [go_sem, ↓reduceIte, zn1, zn2, zn3, zn4, zn5, zn6, reduceCtorEq, zn7, zi1, zi2, if_pos, if_neg]))) | (with_reducible apply SC.ops)))
    exact retQ_ret Try.results46 (by simp (disch := omega) only [go_sem, ↓reduceIte] <;> rfl) (by simp (disch := omega) only [go_sem] <;> rfl) rfl
  · obtain ⟨kd, i, j, k⟩ := o
    simp only at e hj hij hi c0
    subst e
    have hj' := inT hj
    have q1 : ((i : Int) != (j : Int)) = true := by simp; omega
    unfold iv sv at c0
    unfold opC sv
    simp only
    refine Spec.run Try.func46 rfl Try.ntmps46 (by simp) (by simp (disch := omega) only [go_sem, zn4]; rfl) fun B hB => ?_
    (repeat (first | refine DO.nil (by kernel_rfl) ?_ | (with_reducible first | apply oz1 | apply oz2 | apply oz3 | apply oz4 | apply oz5 | apply oz6 | apply oz7 | apply oz8 | apply oz9 | apply ozb | apply ozc | apply oze | apply ozf | apply ozg | apply ozh | apply ozi | apply ozj | apply ozk | refine ozd (by decide) ?_) | ((first | apply SO.call | apply DO.call); (iterate 3 (focus (simp (disch := omega) only [go_sem, ↓reduceIte, zn1] <;> rfl))); (first | apply SCall.ofX | apply DCall.ofX); (focus (first | assumption)); (focus (simp (disch := omega) only [go_sem] <;> rfl))) | ((with_reducible first | apply SC.condB | apply SC.region | apply SO.run | apply DO.run); (focus (simp (disch := omega) only [go_sem, ↓reduceIte, zn1, zn2, zn3, zn4, reduceCtorEq, q1] <;> rfl)); (first | refine pickT ?_ | refine pickF ?_ | fail_if_success with_reducible refine pickA ?_)) | ((with_reducible refine SC.draw Tab.mixed ?_ ?_); (focus (first | rfl | simp (disch := omega) only [go_sem, ↓reduceIte, zn1, zn2, zn3, zn4, zn5, zn6, reduceCtorEq, zn7, zi1, zi2, if_pos, if_neg, q1]))) | (with_reducible apply SC.ops)))
    exact retQ_ret Try.results46 (by simp (disch := omega) only [go_sem, ↓reduceIte] <;> rfl) (by simp (disch := omega) only [go_sem] <;> rfl) rfl
set_option maxHeartbeats 4000000 in
theorem lvalid_s {n : Nat} {l : List OpL} (hl : ∀ o ∈ l, OkOp n o) (hlen : l.length ≤ 1000000) : Spec Try.prog 19 [.im (opsC l) l.length, .sc (.int .i64 n)] (.sc (.bool true)) := by
  refine Spec.run Try.func19 rfl Try.ntmps19 (by simp) (by simp (disch := omega) only [go_sem, zn4]; rfl) fun B hB => ?_
  (repeat (first | refine DO.nil (by kernel_rfl) ?_ | (with_reducible first | apply oz1 | apply oz2 | apply oz3 | apply oz4 | apply oz5 | apply oz6 | apply oz7 | apply oz8 | apply oz9 | apply ozb | apply ozc | apply oze | apply ozf | apply ozg | apply ozh | apply ozi | apply ozj | apply ozk | refine ozd (by decide) ?_) | ((first | apply SO.call | apply DO.call); (iterate 3 (focus (simp (disch := omega) only [go_sem, ↓reduceIte, zn1, zn2, zn3, zn4, zn5, zn6, reduceCtorEq, zn7, zi1, zi2, if_pos, if_neg] <;> rfl))); (first | apply SCall.ofX | apply DCall.ofX); (focus (first | assumption)); (focus (simp (disch := omega) only [go_sem, ↓reduceIte, zn1, zn2, zn3, zn4, zn5, zn6, reduceCtorEq, zn7, zi1, zi2, if_pos, if_neg] <;> rfl))) | ((with_reducible first | apply SC.condB | apply SC.region | apply SO.run | apply DO.run); (focus (simp (disch := omega) only [go_sem, ↓reduceIte] <;> rfl)); (first | refine pickT ?_ | refine pickF ?_ | fail_if_success with_reducible refine pickA ?_)) | ((with_reducible refine SC.draw Tab.mixed ?_ ?_); (focus (first | rfl | simp (disch := omega) only [go_sem, ↓reduceIte, zn1, zn2, zn3, zn4, zn5, zn6, reduceCtorEq, zn7, zi1, zi2, if_pos, if_neg]))) | (with_reducible apply SC.ops)))
  refine SC.loop (fun k : Nat => ⟨[(0, .im (opsC l) l.length), (1, .sc (.int .i64 n)), (5, .sc (.int .i64 k))], [], 0, 19⟩)
    (fun k => k ≤ l.length) (fun k => l.length - k) 0 ?_ ?_ ?_
  · (refine Le.slots ?_ ?_ ?_ <;> (repeat' (first | (exact fun _ _ h => h) | exact Nat.le_refl _ | exact leSl_nil | refine leSl_cons (by simp (disch := omega) only [go_sem, ↓reduceIte, zn1, reduceCtorEq] <;> rfl) ?_ ?_ | exact VLe.junk _ | exact VLe.refl rfl | exact VLe.nil_sl _ _ _ | exact VLe.int (by first | rfl | omega | (dsimp only; omega)) | exact VLe.bool rfl | exact VLe.sl rfl (by first | rfl | omega) | exact VLe.cap rfl (by first | rfl | omega) | exact VLe.im rfl rfl | omega | (refine fun id k h => ?_; simp only [hget] at h ⊢; (repeat' (split at h)) <;> first | (cases h; done) | (simp (disch := omega) only [if_pos, if_neg]; exact h)))))
  · exact Nat.zero_le _
  · intro k hk K hK
    by_cases hc : k < l.length
    · have q1 : decide ((k : Int) < (l.length : Int)) = true := decide_eq_true (by omega)
      have g1 := opsC_drop hc
      have g2 : k * 5 < (opsC l).length := by rw [opsC_len]; omega
      have c1 := lvalidop_s (hl _ (getD_mem (d := ⟨0, 0, 0, 0⟩) hc))
      generalize l.getD k ⟨0, 0, 0, 0⟩ = op at *
      generalize (opsC l).drop ((k + 1) * 5) = D at *
      obtain ⟨kd, i, j, f⟩ := op
      unfold opC sv at c1 g1
      simp only [List.cons_append, List.nil_append] at g1
      simp only at c1
      (repeat (first | refine DO.nil (by kernel_rfl) ?_ | (with_reducible first | apply oz1 | apply oz2 | apply oz3 | apply oz4 | apply oz5 | apply oz6 | apply oz7 | apply oz8 | apply oz9 | apply ozb | apply ozc | apply oze | apply ozf | apply ozg | apply ozh | apply ozi | apply ozj | apply ozk | refine ozd (by decide) ?_) | ((first | apply SO.call | apply DO.call); (iterate 3 (focus (simp (disch := omega) only [go_sem, ↓reduceIte, zn1] <;> rfl))); (first | apply SCall.ofX | apply DCall.ofX); (focus (first | assumption)); (focus (simp (disch := omega) only [go_sem] <;> rfl))) | ((with_reducible first | apply SC.condB | apply SC.region | apply SO.run | apply DO.run); (focus (simp (disch := omega) only [go_sem, ↓reduceIte, zn1, zn2, zn3, reduceCtorEq, if_pos, q1, g1, g2] <;> rfl)); (first | refine pickT ?_ | refine pickF ?_ | fail_if_success with_reducible refine pickA ?_)) | ((with_reducible refine SC.draw Tab.mixed ?_ ?_); (focus (first | rfl | simp (disch := omega) only [go_sem, ↓reduceIte, zn1, zn2, zn3, zn4, zn5, zn6, reduceCtorEq, zn7, zi1, zi2, if_pos, if_neg, q1, g1, g2]))) | (with_reducible apply SC.ops)))
      refine hK _ (k + 1) ?_ (by omega) (by omega)
      (refine Le.slots ?_ ?_ ?_ <;> (repeat' (first | (exact fun _ _ h => h) | exact Nat.le_refl _ | exact leSl_nil | refine leSl_cons (by simp (disch := omega) only [go_sem, ↓reduceIte, zn1, reduceCtorEq] <;> rfl) ?_ ?_ | exact VLe.junk _ | exact VLe.refl rfl | exact VLe.nil_sl _ _ _ | exact VLe.int (by first | rfl | omega | (dsimp only; omega)) | exact VLe.bool rfl | exact VLe.sl rfl (by first | rfl | omega) | exact VLe.cap rfl (by first | rfl | omega) | exact VLe.im rfl rfl | omega | (refine fun id k h => ?_; simp only [hget] at h ⊢; (repeat' (split at h)) <;> first | (cases h; done) | (simp (disch := omega) only [if_pos, if_neg]; exact h)))))
    · have q1 : decide ((k : Int) < (l.length : Int)) = false := decide_eq_false (by omega)
      (repeat (first | refine DO.nil (by kernel_rfl) ?_ | (with_reducible first | apply oz1 | apply oz2 | apply oz3 | apply oz4 | apply oz5 | apply oz6 | apply oz7 | apply oz8 | apply oz9 | apply ozb | apply ozc | apply oze | apply ozf | apply ozg | apply ozh | apply ozi | apply ozj | apply ozk | refine ozd (by decide) ?_) | ((first | apply SO.call | apply DO.call); (iterate 3 (focus (simp (disch := omega) only [go_sem, ↓reduceIte, zn1, zn2, zn3, zn4, zn5, zn6, reduceCtorEq, zn7, zi1, zi2, if_pos, if_neg, q1] <;> rfl))); (first | apply SCall.ofX | apply DCall.ofX); (focus (first | assumption)); (focus (simp (disch := omega) only [go_sem, ↓reduceIte, zn1, zn2, zn3, zn4, zn5, zn6, reduceCtorEq, zn7, zi1, zi2, if_pos, if_neg, q1] <;> rfl))) | ((with_reducible first | apply SC.condB | apply SC.region | apply SO.run | apply DO.run); (focus (simp (disch := omega) only [go_sem, ↓reduceIte, zn1, reduceCtorEq, q1] <;> rfl)); (first | refine pickT ?_ | refine pickF ?_ | fail_if_success with_reducible refine pickA ?_)) | ((with_reducible refine SC.draw Tab.mixed ?_ ?_); (focus (first | rfl | simp (disch := omega) only [go_sem, ↓reduceIte, zn1, zn2, zn3, zn4, zn5, zn6, reduceCtorEq, zn7, zi1, zi2, if_pos, if_neg, q1]))) | (with_reducible apply SC.ops)))
      exact retQ_ret Try.results19 (by simp (disch := omega) only [go_sem, ↓reduceIte] <;> rfl) (by simp (disch := omega) only [go_sem] <;> rfl) rfl
end Go.Proofs.Ytfhcmibgpddggaa
namespace Go.Proofs.Ytfhcmibgpddggaa
open Go.RowKit
theorem wk_only {p oM oU oV h w nx : Nat} {a b c : List Nat} {W : List (List Int)} {P : Nat → Prop} (hP : ∀ i ∈ p :: oM :: oU :: oV :: (a ++ b ++ c), P i) : OnlyH P (wkH p oM oU oV h w a b c W) := by
  have l2 : P oM := hP _ (by simp)
  have l3 : P oU := hP _ (by simp)
  have l4 : P oV := hP _ (by simp)
  have lr : ∀ i ∈ a ++ b ++ c, P i := fun i hi => hP i (by simp only [List.mem_cons]; exact .inr (.inr (.inr (.inr hi))))
  refine ⟨fun y hy => ?_, fun y hy => ?_, fun y hy => ?_, fun y hy => ?_, OnlyH.rows (rI_clo W)⟩
  · simp only [workC, List.mem_cons, List.not_mem_nil, or_false] at hy
    rcases hy with rfl | rfl | rfl | rfl | rfl | rfl | rfl | rfl | rfl <;> first | exact .sc _ | exact .sl l2 | exact .sl l3 | exact .sl l4
  · obtain ⟨q, hq, rfl⟩ := List.mem_map.1 hy
    exact .sl (lr q (List.mem_append_left _ (List.mem_append_left _ hq)))
  · obtain ⟨q, hq, rfl⟩ := List.mem_map.1 hy
    exact .sl (lr q (List.mem_append_left _ (List.mem_append_right _ hq)))
  · obtain ⟨q, hq, rfl⟩ := List.mem_map.1 hy
    exact .sl (lr q (List.mem_append_right _ hq))
theorem wk_in {p oM oU oV h w nx : Nat} {a b c : List Nat} {W : List (List Int)} {P : Nat → Prop} (hP : ∀ i ∈ p :: oM :: oU :: oV :: (a ++ b ++ c), P i) : ∀ id k, hget (wkH p oM oU oV h w a b c W) id = some k → P id := by
  intro id k hk
  unfold wkH at hk
  simp only [hget] at hk
  split at hk
  · rename_i e; exact hP _ (by simp [e])
  split at hk
  · rename_i e; exact hP _ (by simp [e])
  split at hk
  · rename_i e; exact hP _ (by simp [e])
  split at hk
  · rename_i e; exact hP _ (by simp [e])
  · obtain ⟨q, q1, _, q3, _⟩ := rows_inv hk
    rw [← q3]; exact hP _ (by simp only [List.mem_cons]; exact .inr (.inr (.inr (.inr (getD_mem' q1)))))
theorem workQ_new {h w nx : Nat} {W : List (List Int)} {x : V} {hp' : List (Nat × Blk)} {nx' : Nat} (hq : WorkQ h w W nx x hp' nx') : Only (fun i => nx ≤ i) x ∧ OnlyH (fun i => nx ≤ i) hp' ∧ ∀ id k, hget hp' id = some k → nx ≤ id := by
  obtain ⟨p, oM, oU, oV, a, b, c, hw, rfl, rfl⟩ := hq
  have hP : ∀ i ∈ p :: oM :: oU :: oV :: (a ++ b ++ c), nx ≤ i := fun i hi => (hw.rng i hi).1
  exact ⟨.pt (hP _ (by simp)), wk_only (nx := 0) hP, wk_in (nx := 0) hP⟩
theorem swapSub {p oM oU oV h nx i j : Nat} {a b c : List Nat} (hI : WIds p oM oU oV a b c h nx) (hi : i < h) (hj : j < h) : ∀ x ∈ swapN a i j ++ swapN b i j ++ c, x ∈ a ++ b ++ c := by
  have la := hI.la; have lb := hI.lb; have lc := hI.lc
  obtain ⟨_, _, _, _, _, _, _, _, _, _, n5⟩ := nodup_four hI.nod
  have hll : (a ++ b ++ c).length = 3 * h := by rw [List.length_append, List.length_append]; omega
  have lr : ∀ x ∈ a ++ b ++ c, x < nx := fun x hx => hI.rng x (by simp only [List.mem_cons]; exact .inr (.inr (.inr (.inr hx))))
  have s1 := nodup_swap (i := i) (j := j) lr n5 (by omega) (by omega)
  have s2 := nodup_swap (i := h + i) (j := h + j) (fun x hx => lr x (s1.2 x hx)) s1.1 (by rw [swapN_len]; omega) (by rw [swapN_len]; omega)
  rw [hI.swapL hi hj] at s2
  exact fun x hx => s1.2 x (s2.2 x hx)
theorem not2 {b0 b1 : Blk} : ∀ id k, hget [(1, b1), (0, b0)] id = some k → ¬ 2 ≤ id := by
  intro id k hk
  simp only [hget] at hk
  split at hk
  · omega
  split at hk
  · omega
  · cases hk
set_option maxHeartbeats 16000000 in
set_option maxRecDepth 8000 in
theorem lapply_s {h w K : Nat} {M : List (List Int)} {l : List OpL} (hM : MI h w K M) (hl : ∀ o ∈ l, OkOp h o) (hK : K + 2 * l.length ≤ 100000) (hn : h ≤ 1000000) (hw : w ≤ 1000000) :
    Spec Try.prog 24 [.im (opsC l) l.length, mat w M] (.tu [mat w (actsO M l), .sc (.int .i64 0)]) := by
  have hml := hM.len
  have c1 := lvalid_s hl (by omega)
  have c2 := hstart_q 2 hM (by omega) hn hw
  have hW0 := work0_wi hM
  have eF : (actsW h (M ++ idL h ++ idL h) l).take h = actsO M l := by rw [actsW_take hW0 hl, work0_take hM]
  have e0 : actsW h (M ++ idL h ++ idL h) (l.drop 0) = actsW h (M ++ idL h ++ idL h) l := rfl
  have hFl : (actsO M l).length = h := by rw [(acts_mi hM hl).len]
  have hFM := acts_mi hM hl
  generalize hFF : actsW h (M ++ idL h ++ idL h) l = FF at *
  generalize hF : actsO M l = F at *
  generalize M ++ idL h ++ idL h = W0 at *
  unfold mat at *
  rw [hml] at c2 ⊢
  refine Spec.run Try.func24 rfl Try.ntmps24 (by simp) (by simp (disch := omega) only [go_sem, zn4]; rfl) fun B hB => ?_
  (repeat (first | refine DO.nilF (fun i => i + 1 - nx) (by simp (disch := omega) only [go_sem, ↓reduceIte, zn1, zn2, zn3, zn4, zn5, zn6, reduceCtorEq, zn7, zi1, zi2, if_pos, if_neg, List.map_cons, List.map_nil, Option.map_some, Option.map_none, Nat.add_sub_cancel_left, Nat.sub_eq_zero_of_le, Nat.add_assoc, zn4] <;> rfl) (by kernel_rfl) ?_ | (with_reducible first | apply oz1 | apply oz2 | apply oz3 | apply oz4 | apply oz5 | apply oz6 | apply oz7 | apply oz8 | apply oz9 | apply ozb | apply ozc | apply oze | apply ozf | apply ozg | apply ozh | apply ozi | apply ozj | apply ozk | refine ozd (by decide) ?_) | ((first | apply SO.call | apply DO.call); (iterate 3 (focus (simp (disch := omega) only [go_sem, ↓reduceIte, zn1] <;> rfl))); (first | apply SCall.ofX | apply DCall.ofX); (focus (first | assumption)); (focus (simp (disch := omega) only [go_sem] <;> rfl))) | ((with_reducible first | apply SC.condB | apply SC.region | apply SO.run | apply DO.run); (focus (simp (disch := omega) only [go_sem, ↓reduceIte, zn1, zn3, zn4, reduceCtorEq] <;> rfl)); (first | refine pickT ?_ | refine pickF ?_ | fail_if_success with_reducible refine pickA ?_)) | ((with_reducible refine SC.draw Tab.mixed ?_ ?_); (focus (first | rfl | simp (disch := omega) only [go_sem, ↓reduceIte, zn1, zn2, zn3, zn4, zn5, zn6, reduceCtorEq, zn7, zi1, zi2, if_pos, if_neg]))) | (with_reducible apply SC.ops)))
  refine SO.inlQ (by simp (disch := omega) only [go_sem] <;> rfl) Tab.go50 (by simp (disch := omega) only [go_sem, ↓reduceIte] <;> rfl) (by simp (disch := omega) only [go_sem] <;> rfl) (SInlQ.newR c2 ?_ ?_ ?_)
  · exact klc (by omega) (klc (by omega) kln)
  · exact fun x hp' nx' h => workQ_new h
  rintro x hp' nx ⟨p, oM, oU, oV, a0, b0, c0, hWk, rfl, rfl⟩
  (repeat (first | refine DO.nilF (fun i => i + 1 - nx) (by simp (disch := omega) only [go_sem, ↓reduceIte, zn1, zn2, zn3, zn4, zn5, zn6, reduceCtorEq, zn7, zi1, zi2, if_pos, if_neg, List.map_cons, List.map_nil, Option.map_some, Option.map_none, Nat.add_sub_cancel_left, Nat.sub_eq_zero_of_le, Nat.add_assoc, zn4] <;> rfl) (by kernel_rfl) ?_ | (with_reducible first | apply oz1 | apply oz2 | apply oz3 | apply oz4 | apply oz5 | apply oz6 | apply oz7 | apply oz8 | apply oz9 | apply ozb | apply ozc | apply oze | apply ozf | apply ozg | apply ozh | apply ozi | apply ozj | apply ozk | refine ozd (by decide) ?_) | ((first | apply SO.call | apply DO.call); (iterate 3 (focus (simp (disch := omega) only [go_sem, ↓reduceIte, zn1, zn2, zn3, zn4, zn5, zn6, reduceCtorEq, zn7, zi1, zi2, if_pos, if_neg] <;> rfl))); (first | apply SCall.ofX | apply DCall.ofX); (focus (first | assumption)); (focus (simp (disch := omega) only [go_sem, ↓reduceIte, zn1, zn2, zn3, zn4, zn5, zn6, reduceCtorEq, zn7, zi1, zi2, if_pos, if_neg] <;> rfl))) | ((with_reducible first | apply SC.condB | apply SC.region | apply SO.run | apply DO.run); (focus (simp (disch := omega) only [go_sem, ↓reduceIte] <;> rfl)); (first | refine pickT ?_ | refine pickF ?_ | fail_if_success with_reducible refine pickA ?_)) | ((with_reducible refine SC.draw Tab.mixed ?_ ?_); (focus (first | rfl | simp (disch := omega) only [go_sem, ↓reduceIte, zn1, zn2, zn3, zn4, zn5, zn6, reduceCtorEq, zn7, zi1, zi2, if_pos, if_neg]))) | (with_reducible apply SC.ops)))
  refine SC.loop (fun x : Nat × List (List Int) × List Nat × List Nat => ⟨[(0, .im (opsC l) l.length), (3, .pt 0 0), (4, .pt 1 0), (7, .pt p 0), (8, .sc (.int .i64 x.1))], (1, ⟨29, [.sc (.int .i64 0), .sc (.int .i64 0), .sc (.slice none 0 0)], false⟩) :: (0, ⟨29, [.sc (.int .i64 h), .sc (.int .i64 w), .im (imR w (rI M)) h], false⟩) :: wkH p oM oU oV h w x.2.2.1 x.2.2.2 c0 x.2.1, nx, 73⟩)
    (fun x => x.1 ≤ l.length ∧ WI h w (K + 1 + 2 * x.1) x.2.1 ∧ WIds p oM oU oV x.2.2.1 x.2.2.2 c0 h nx ∧ (∀ i ∈ p :: oM :: oU :: oV :: (x.2.2.1 ++ x.2.2.2 ++ c0), 2 ≤ i) ∧ actsW h x.2.1 (l.drop x.1) = FF) (fun x => l.length - x.1) (0, W0, a0, b0) ?_ ?_ ?_
  · (refine Le.slots ?_ ?_ ?_ <;> (repeat' (first | (exact fun _ _ h => h) | exact Nat.le_refl _ | exact leSl_nil | refine leSl_cons (by simp (disch := omega) only [go_sem, ↓reduceIte, zn1, reduceCtorEq] <;> rfl) ?_ ?_ | exact VLe.junk _ | exact VLe.refl rfl | exact VLe.nil_sl _ _ _ | exact VLe.int (by first | rfl | omega | (dsimp only; omega)) | exact VLe.bool rfl | exact VLe.sl rfl (by first | rfl | omega) | exact VLe.cap rfl (by first | rfl | omega) | exact VLe.im rfl rfl | omega | (refine fun id k h => ?_; simp only [hget] at h ⊢; (repeat' (split at h)) <;> first | (cases h; done) | (simp (disch := omega) only [if_pos, if_neg]; exact h)))))
  · exact ⟨Nat.zero_le _, hW0, ⟨hWk.la, hWk.lb, hWk.lc, hWk.nod, fun i hi => (hWk.rng i hi).2⟩, fun i hi => (hWk.rng i hi).1, e0⟩
  · rintro ⟨i, W, a, b⟩ ⟨hi, hW, hI, hge, hF2⟩ K2 hK2
    simp only at hi hW hI hge hF2 ⊢
    by_cases hc : i < l.length
    · have q1 := decide_eq_true (p := (i : Int) < (l.length : Int)) (by omega)
      have g1 := opsC_drop hc
      have g2 : i * 5 < (opsC l).length := by rw [opsC_len]; omega
      have hok := hl _ (getD_mem (d := ⟨0, 0, 0, 0⟩) hc)
      rw [actsW_drop hc] at hF2
      have hA' := actW_wi hW hok
      have hnx : 2 < nx := by have := hge p (by simp); have := hI.rng p (by simp); omega
      generalize hop : l.getD i ⟨0, 0, 0, 0⟩ = op at *
      obtain ⟨kd, u, v, k⟩ := op
      generalize (opsC l).drop ((i + 1) * 5) = D at *
      have hu := hok.i
      have hk := hok.k
      have hcs := hok.c
      simp only at hu hk hcs
      unfold opC sv at g1
      simp only [List.cons_append, List.nil_append] at g1
      rcases hcs with ⟨rfl, hv, huv, rfl⟩ | ⟨rfl, rfl, rfl⟩ | ⟨rfl, hv, huv⟩
      · have q3 : (((1 : Nat) : Int) == 1) = true := rfl
        have c5 := swap_q hW hI hu hv hn hw
        have hI' := hI.swap hu hv
        have hge' : ∀ x ∈ p :: oM :: oU :: oV :: (swapN a u v ++ swapN b u v ++ c0), 2 ≤ x := by
          intro x hx
          simp only [List.mem_cons] at hx
          rcases hx with rfl | rfl | rfl | rfl | hx
          · exact hge _ (by simp)
          · exact hge _ (by simp)
          · exact hge _ (by simp)
          · exact hge _ (by simp)
          · exact hge _ (by simp only [List.mem_cons]; exact .inr (.inr (.inr (.inr (swapSub hI hu hv x hx)))))
        (repeat (first | refine DO.nilF (fun i => i + 1 - nx) (by simp (disch := omega) only [go_sem, ↓reduceIte, zn1, zn2, zn3, zn4, zn5, zn6, reduceCtorEq, zn7, zi1, zi2, if_pos, if_neg, List.map_cons, List.map_nil, Option.map_some, Option.map_none, Nat.add_sub_cancel_left, Nat.sub_eq_zero_of_le, Nat.add_assoc, zn4] <;> rfl) (by kernel_rfl) ?_ | (with_reducible refine SC.condB (by simp (disch := omega) only [go_sem, ↓reduceIte]; rfl) ?_; first | with_reducible refine pickT ?_ | with_reducible refine pickF ?_) | (with_reducible first | apply oz1 | apply oz2 | apply oz3 | apply oz4 | apply oz5 | apply oz6 | apply oz7 | apply oz8 | apply oz9 | apply ozb | apply ozc | apply oze | apply ozf | apply ozg | apply ozh | apply ozi | apply ozj | apply ozk | refine ozd (by decide) ?_) | ((with_reducible apply SC.region); (focus (simp (disch := omega) only [go_sem, ↓reduceIte, zn1, reduceCtorEq, if_pos, q1, g1, g2, q3]; rfl))) | (with_reducible refine SC.draw Tab.mixed rfl ?_; (repeat (refine DO.run (by simp (disch := omega) only [go_sem, ↓reduceIte, zn1, zn2, zn3, zn4, zn5, zn6, reduceCtorEq, zn7, zi1, zi2, if_pos, if_neg, q1, g1, g2, q3]; rfl) ?_)); refine DO.nilF (fun i => i + 1 - nx) (by simp (disch := omega) only [go_sem, ↓reduceIte, zn1, zn2, zn3, zn4, zn5, zn6, reduceCtorEq, zn7, zi1, zi2, if_pos, if_neg, List.map_cons, List.map_nil, Option.map_some, Option.map_none, Nat.add_sub_cancel_left, Nat.sub_eq_zero_of_le, Nat.add_assoc, zn4] <;> rfl) (by kernel_rfl) ?_)))
        refine SC.drawT 11 (by simp only [List.take_succ_cons, List.take_zero]; rfl) (by simp only [List.drop_succ_cons, List.drop_zero]; rfl) Tab.mixed ?_ (by kernel_rfl) ?_
        · exact klc (show 1 < nx by omega) (klc (show 0 < nx by omega) (wk_lt hI))
        (repeat (first | refine DO.nilF (fun i => i + 1 - nx) (by simp (disch := omega) only [go_sem, List.map_cons, List.map_nil, Option.map_none] <;> rfl) (by kernel_rfl) ?_ | (with_reducible first | apply oz1 | apply oz2 | apply oz3 | apply oz4 | apply oz5 | apply oz6 | apply oz7 | apply oz8 | apply oz9 | apply ozb | apply ozc | apply oze | apply ozf | apply ozg | apply ozh | apply ozi | apply ozj | apply ozk | refine ozd (by decide) ?_) | ((first | apply SO.call | apply DO.call); (iterate 3 (focus (simp (disch := omega) only [go_sem, ↓reduceIte, zn1] <;> rfl))); (first | apply SCall.ofX | apply DCall.ofX); (focus (first | assumption)); (focus (simp (disch := omega) only [go_sem, ↓reduceIte, zn1, zn2, zn3, zn4, zn5, zn6, reduceCtorEq, zn7, zi1, zi2, if_pos, if_neg, g1, g2] <;> rfl))) | ((with_reducible first | apply SC.condB | apply SC.region | apply SO.run | apply DO.run); (focus (simp (disch := omega) only [go_sem, ↓reduceIte, zn1, reduceCtorEq, if_pos, g1, g2] <;> rfl)); (first | refine pickT ?_ | refine pickF ?_ | fail_if_success with_reducible refine pickA ?_)) | ((with_reducible refine SC.draw Tab.mixed ?_ ?_); (focus (first | rfl | simp (disch := omega) only [go_sem, ↓reduceIte, zn1, zn2, zn3, zn4, zn5, zn6, reduceCtorEq, zn7, zi1, zi2, if_pos, if_neg, g1, g2]))) | (with_reducible apply SC.ops)))
        show SO _ _ _ _ _ _ _
        refine SO.inlQ (by simp (disch := omega) only [go_sem] <;> rfl) (by rfl) (by simp (disch := omega) only [go_sem, ↓reduceIte, zn1] <;> rfl) (by simp (disch := omega) only [go_sem] <;> rfl) (SInlQ.part [(1, _), (0, _)] (fun i => 2 ≤ i) c5 not2 (wk_in (nx := 0) hge) ?_ ?_)
        · rintro x hp' nx' ⟨rfl, rfl, rfl⟩
          exact ⟨.tu (fun _ h => by cases h), wk_only (nx := 0) hge', wk_in (nx := 0) hge'⟩
        rintro x hp' nx' ⟨rfl, rfl, rfl⟩
        (repeat (first | refine DO.nilF (fun i => i + 1 - nx) (by simp (disch := omega) only [go_sem, ↓reduceIte, zn1, zn2, zn3, zn4, zn5, zn6, reduceCtorEq, zn7, zi1, zi2, if_pos, if_neg, List.map_cons, List.map_nil, Option.map_some, Option.map_none, Nat.add_sub_cancel_left, Nat.sub_eq_zero_of_le, Nat.add_assoc, zn4] <;> rfl) (by kernel_rfl) ?_ | (with_reducible first | apply oz1 | apply oz2 | apply oz3 | apply oz4 | apply oz5 | apply oz6 | apply oz7 | apply oz8 | apply oz9 | apply ozb | apply ozc | apply oze | apply ozf | apply ozg | apply ozh | apply ozi | apply ozj | apply ozk | refine ozd (by decide) ?_) | ((first | apply SO.call | apply DO.call); (iterate 3 (focus (simp (disch := omega) only [go_sem, ↓reduceIte, zn1, zn2, zn3, zn4, zn5, zn6, reduceCtorEq, zn7, zi1, zi2, if_pos, if_neg] <;> rfl))); (first | apply SCall.ofX | apply DCall.ofX); (focus (first | assumption)); (focus (simp (disch := omega) only [go_sem, ↓reduceIte, zn1, zn2, zn3, zn4, zn5, zn6, reduceCtorEq, zn7, zi1, zi2, if_pos, if_neg] <;> rfl))) | ((with_reducible first | apply SC.condB | apply SC.region | apply SO.run | apply DO.run); (focus (simp (disch := omega) only [go_sem, ↓reduceIte, zn1, reduceCtorEq] <;> rfl)); (first | refine pickT ?_ | refine pickF ?_ | fail_if_success with_reducible refine pickA ?_)) | ((with_reducible refine SC.draw Tab.mixed ?_ ?_); (focus (first | rfl | simp (disch := omega) only [go_sem, ↓reduceIte, zn1, zn2, zn3, zn4, zn5, zn6, reduceCtorEq, zn7, zi1, zi2, if_pos, if_neg]))) | (with_reducible apply SC.ops)))
        refine hK2 _ (i + 1, _, swapN a u v, swapN b u v) ?_ ⟨by simp only; omega, hA'.mono (by simp only; omega), hI', hge', hF2⟩ (by simp only; omega)
        (refine Le.slots ?_ ?_ ?_ <;> (repeat' (first | (exact fun _ _ h => h) | exact Nat.le_refl _ | exact leSl_nil | refine leSl_cons (by simp (disch := omega) only [go_sem, ↓reduceIte, zn1, reduceCtorEq] <;> rfl) ?_ ?_ | exact VLe.junk _ | exact VLe.refl rfl | exact VLe.nil_sl _ _ _ | exact VLe.int (by first | rfl | omega | (dsimp only; omega)) | exact VLe.bool rfl | exact VLe.sl rfl (by first | rfl | omega) | exact VLe.cap rfl (by first | rfl | omega) | exact VLe.im rfl rfl | omega | (refine fun id k h => ?_; simp only [hget] at h ⊢; (repeat' (split at h)) <;> first | (cases h; done) | (simp (disch := omega) only [if_pos, if_neg]; exact h)))))
      · have q3 : (((2 : Nat) : Int) == 1) = false := rfl
        have q4 : (((2 : Nat) : Int) == 2) = true := rfl
        have c5 := negate_q hW (by omega) hI hu hn hw
        (repeat (first | refine DO.nilF (fun i => i + 1 - nx) (by simp (disch := omega) only [go_sem, ↓reduceIte, zn1, zn2, zn3, zn4, zn5, zn6, reduceCtorEq, zn7, zi1, zi2, if_pos, if_neg, List.map_cons, List.map_nil, Option.map_some, Option.map_none, Nat.add_sub_cancel_left, Nat.sub_eq_zero_of_le, Nat.add_assoc, zn4] <;> rfl) (by kernel_rfl) ?_ | (with_reducible refine SC.condB (by simp (disch := omega) only [go_sem, ↓reduceIte]; rfl) ?_; first | with_reducible refine pickT ?_ | with_reducible refine pickF ?_) | (with_reducible first | apply oz1 | apply oz2 | apply oz3 | apply oz4 | apply oz5 | apply oz6 | apply oz7 | apply oz8 | apply oz9 | apply ozb | apply ozc | apply oze | apply ozf | apply ozg | apply ozh | apply ozi | apply ozj | apply ozk | refine ozd (by decide) ?_) | ((with_reducible apply SC.region); (focus (simp (disch := omega) only [go_sem, ↓reduceIte, zn1, reduceCtorEq, if_pos, q1, g1, g2, q3, q4]; rfl))) | (with_reducible refine SC.draw Tab.mixed rfl ?_; (repeat (refine DO.run (by simp (disch := omega) only [go_sem, ↓reduceIte, zn1, zn2, zn3, zn4, zn5, zn6, reduceCtorEq, zn7, zi1, zi2, if_pos, if_neg, q1, g1, g2, q3, q4]; rfl) ?_)); refine DO.nilF (fun i => i + 1 - nx) (by simp (disch := omega) only [go_sem, ↓reduceIte, zn1, zn2, zn3, zn4, zn5, zn6, reduceCtorEq, zn7, zi1, zi2, if_pos, if_neg, List.map_cons, List.map_nil, Option.map_some, Option.map_none, Nat.add_sub_cancel_left, Nat.sub_eq_zero_of_le, Nat.add_assoc, zn4] <;> rfl) (by kernel_rfl) ?_)))
        refine SC.ops ?_
        repeat (refine SO.run (by simp (disch := omega) only [go_sem, ↓reduceIte, zn1, reduceCtorEq, if_pos, g1, g2]; rfl) ?_)
        refine SO.inlQ (by simp (disch := omega) only [go_sem] <;> rfl) (by rfl) (by simp (disch := omega) only [go_sem, ↓reduceIte, zn1] <;> rfl) (by simp (disch := omega) only [go_sem] <;> rfl) (SInlQ.part [(1, _), (0, _)] (fun i => 2 ≤ i) c5 not2 (wk_in (nx := 0) hge) ?_ ?_)
        · rintro x hp' nx' ⟨rfl, rfl, rfl⟩
          exact ⟨.tu (fun _ h => by cases h), wk_only (nx := 0) hge, wk_in (nx := 0) hge⟩
        rintro x hp' nx' ⟨rfl, rfl, rfl⟩
        (repeat (first | refine DO.nilF (fun i => i + 1 - nx) (by simp (disch := omega) only [go_sem, ↓reduceIte, zn1, zn2, zn3, zn4, zn5, zn6, reduceCtorEq, zn7, zi1, zi2, if_pos, if_neg, List.map_cons, List.map_nil, Option.map_some, Option.map_none, Nat.add_sub_cancel_left, Nat.sub_eq_zero_of_le, Nat.add_assoc, zn4] <;> rfl) (by kernel_rfl) ?_ | (with_reducible first | apply oz1 | apply oz2 | apply oz3 | apply oz4 | apply oz5 | apply oz6 | apply oz7 | apply oz8 | apply oz9 | apply ozb | apply ozc | apply oze | apply ozf | apply ozg | apply ozh | apply ozi | apply ozj | apply ozk | refine ozd (by decide) ?_) | ((first | apply SO.call | apply DO.call); (iterate 3 (focus (simp (disch := omega) only [go_sem, ↓reduceIte, zn1, zn2, zn3, zn4, zn5, zn6, reduceCtorEq, zn7, zi1, zi2, if_pos, if_neg] <;> rfl))); (first | apply SCall.ofX | apply DCall.ofX); (focus (first | assumption)); (focus (simp (disch := omega) only [go_sem, ↓reduceIte, zn1, zn2, zn3, zn4, zn5, zn6, reduceCtorEq, zn7, zi1, zi2, if_pos, if_neg] <;> rfl))) | ((with_reducible first | apply SC.condB | apply SC.region | apply SO.run | apply DO.run); (focus (simp (disch := omega) only [go_sem, ↓reduceIte, zn1, reduceCtorEq] <;> rfl)); (first | refine pickT ?_ | refine pickF ?_ | fail_if_success with_reducible refine pickA ?_)) | ((with_reducible refine SC.draw Tab.mixed ?_ ?_); (focus (first | rfl | simp (disch := omega) only [go_sem, ↓reduceIte, zn1, zn2, zn3, zn4, zn5, zn6, reduceCtorEq, zn7, zi1, zi2, if_pos, if_neg]))) | (with_reducible apply SC.ops)))
        refine hK2 _ (i + 1, _, a, b) ?_ ⟨by simp only; omega, hA'.mono (by simp only; omega), hI, hge, hF2⟩ (by simp only; omega)
        (refine Le.slots ?_ ?_ ?_ <;> (repeat' (first | (exact fun _ _ h => h) | exact Nat.le_refl _ | exact leSl_nil | refine leSl_cons (by simp (disch := omega) only [go_sem, ↓reduceIte, zn1, reduceCtorEq] <;> rfl) ?_ ?_ | exact VLe.junk _ | exact VLe.refl rfl | exact VLe.nil_sl _ _ _ | exact VLe.int (by first | rfl | omega | (dsimp only; omega)) | exact VLe.bool rfl | exact VLe.sl rfl (by first | rfl | omega) | exact VLe.cap rfl (by first | rfl | omega) | exact VLe.im rfl rfl | omega | (refine fun id k h => ?_; simp only [hget] at h ⊢; (repeat' (split at h)) <;> first | (cases h; done) | (simp (disch := omega) only [if_pos, if_neg]; exact h)))))
      · have q3 : (((3 : Nat) : Int) == 1) = false := rfl
        have q4 : (((3 : Nat) : Int) == 2) = false := rfl
        have c5 := addto_q hW hk (by omega) hI hu hv huv hn hw
        unfold iv sv at c5
        (repeat (first | refine DO.nilF (fun i => i + 1 - nx) (by simp (disch := omega) only [go_sem, ↓reduceIte, zn1, zn2, zn3, zn4, zn5, zn6, reduceCtorEq, zn7, zi1, zi2, if_pos, if_neg, List.map_cons, List.map_nil, Option.map_some, Option.map_none, Nat.add_sub_cancel_left, Nat.sub_eq_zero_of_le, Nat.add_assoc, zn4] <;> rfl) (by kernel_rfl) ?_ | (with_reducible refine SC.condB (by simp (disch := omega) only [go_sem, ↓reduceIte]; rfl) ?_; first | with_reducible refine pickT ?_ | with_reducible refine pickF ?_) | (with_reducible first | apply oz1 | apply oz2 | apply oz3 | apply oz4 | apply oz5 | apply oz6 | apply oz7 | apply oz8 | apply oz9 | apply ozb | apply ozc | apply oze | apply ozf | apply ozg | apply ozh | apply ozi | apply ozj | apply ozk | refine ozd (by decide) ?_) | ((with_reducible apply SC.region); (focus (simp (disch := omega) only [go_sem, ↓reduceIte, zn1, reduceCtorEq, if_pos, q1, g1, g2, q3, q4]; rfl))) | (with_reducible refine SC.draw Tab.mixed rfl ?_; (repeat (refine DO.run (by simp (disch := omega) only [go_sem, ↓reduceIte, zn1, zn2, zn3, zn4, zn5, zn6, reduceCtorEq, zn7, zi1, zi2, if_pos, if_neg, q1, g1, g2, q3, q4]; rfl) ?_)); refine DO.nilF (fun i => i + 1 - nx) (by simp (disch := omega) only [go_sem, ↓reduceIte, zn1, zn2, zn3, zn4, zn5, zn6, reduceCtorEq, zn7, zi1, zi2, if_pos, if_neg, List.map_cons, List.map_nil, Option.map_some, Option.map_none, Nat.add_sub_cancel_left, Nat.sub_eq_zero_of_le, Nat.add_assoc, zn4] <;> rfl) (by kernel_rfl) ?_)))
        refine SC.drawT 16 (by simp only [List.take_succ_cons, List.take_zero]; rfl) (by simp only [List.drop_succ_cons, List.drop_zero]; rfl) Tab.mixed ?_ (by kernel_rfl) ?_
        · exact klc (show 1 < nx by omega) (klc (show 0 < nx by omega) (wk_lt hI))
        (repeat (first | refine DO.nilF (fun i => i + 1 - nx) (by simp (disch := omega) only [go_sem, List.map_cons, List.map_nil, Option.map_none] <;> rfl) (by kernel_rfl) ?_ | (with_reducible first | apply oz1 | apply oz2 | apply oz3 | apply oz4 | apply oz5 | apply oz6 | apply oz7 | apply oz8 | apply oz9 | apply ozb | apply ozc | apply oze | apply ozf | apply ozg | apply ozh | apply ozi | apply ozj | apply ozk | refine ozd (by decide) ?_) | ((first | apply SO.call | apply DO.call); (iterate 3 (focus (simp (disch := omega) only [go_sem, ↓reduceIte, zn1] <;> rfl))); (first | apply SCall.ofX | apply DCall.ofX); (focus (first | assumption)); (focus (simp (disch := omega) only [go_sem, ↓reduceIte, zn1, zn2, zn3, zn4, zn5, zn6, reduceCtorEq, zn7, zi1, zi2, if_pos, if_neg, g1, g2] <;> rfl))) | ((with_reducible first | apply SC.condB | apply SC.region | apply SO.run | apply DO.run); (focus (simp (disch := omega) only [go_sem, ↓reduceIte, zn1, zn3, reduceCtorEq, if_pos, g1, g2] <;> rfl)); (first | refine pickT ?_ | refine pickF ?_ | fail_if_success with_reducible refine pickA ?_)) | ((with_reducible refine SC.draw Tab.mixed ?_ ?_); (focus (first | rfl | simp (disch := omega) only [go_sem, ↓reduceIte, zn1, zn2, zn3, zn4, zn5, zn6, reduceCtorEq, zn7, zi1, zi2, if_pos, if_neg, g1, g2]))) | (with_reducible apply SC.ops)))
        show SO _ _ _ _ _ _ _
        refine SO.inlQ (by simp (disch := omega) only [go_sem] <;> rfl) (by rfl) (by simp (disch := omega) only [go_sem, ↓reduceIte, zn1] <;> rfl) (by simp (disch := omega) only [go_sem] <;> rfl) (SInlQ.part [(1, _), (0, _)] (fun i => 2 ≤ i) c5 not2 (wk_in (nx := 0) hge) ?_ ?_)
        · rintro x hp' nx' ⟨rfl, rfl, rfl⟩
          exact ⟨.tu (fun _ h => by cases h), wk_only (nx := 0) hge, wk_in (nx := 0) hge⟩
        rintro x hp' nx' ⟨rfl, rfl, rfl⟩
        (repeat (first | refine DO.nilF (fun i => i + 1 - nx) (by simp (disch := omega) only [go_sem, ↓reduceIte, zn1, zn2, zn3, zn4, zn5, zn6, reduceCtorEq, zn7, zi1, zi2, if_pos, if_neg, List.map_cons, List.map_nil, Option.map_some, Option.map_none, Nat.add_sub_cancel_left, Nat.sub_eq_zero_of_le, Nat.add_assoc, zn4] <;> rfl) (by kernel_rfl) ?_ | (with_reducible first | apply oz1 | apply oz2 | apply oz3 | apply oz4 | apply oz5 | apply oz6 | apply oz7 | apply oz8 | apply oz9 | apply ozb | apply ozc | apply oze | apply ozf | apply ozg | apply ozh | apply ozi | apply ozj | apply ozk | refine ozd (by decide) ?_) | ((first | apply SO.call | apply DO.call); (iterate 3 (focus (simp (disch := omega) only [go_sem, ↓reduceIte, zn1, zn2, zn3, zn4, zn5, zn6, reduceCtorEq, zn7, zi1, zi2, if_pos, if_neg] <;> rfl))); (first | apply SCall.ofX | apply DCall.ofX); (focus (first | assumption)); (focus (simp (disch := omega) only [go_sem, ↓reduceIte, zn1, zn2, zn3, zn4, zn5, zn6, reduceCtorEq, zn7, zi1, zi2, if_pos, if_neg] <;> rfl))) | ((with_reducible first | apply SC.condB | apply SC.region | apply SO.run | apply DO.run); (focus (simp (disch := omega) only [go_sem, ↓reduceIte, zn1, reduceCtorEq] <;> rfl)); (first | refine pickT ?_ | refine pickF ?_ | fail_if_success with_reducible refine pickA ?_)) | ((with_reducible refine SC.draw Tab.mixed ?_ ?_); (focus (first | rfl | simp (disch := omega) only [go_sem, ↓reduceIte, zn1, zn2, zn3, zn4, zn5, zn6, reduceCtorEq, zn7, zi1, zi2, if_pos, if_neg]))) | (with_reducible apply SC.ops)))
        refine hK2 _ (i + 1, _, a, b) ?_ ⟨by simp only; omega, hA'.mono (by simp only; omega), hI, hge, hF2⟩ (by simp only; omega)
        (refine Le.slots ?_ ?_ ?_ <;> (repeat' (first | (exact fun _ _ h => h) | exact Nat.le_refl _ | exact leSl_nil | refine leSl_cons (by simp (disch := omega) only [go_sem, ↓reduceIte, zn1, reduceCtorEq] <;> rfl) ?_ ?_ | exact VLe.junk _ | exact VLe.refl rfl | exact VLe.nil_sl _ _ _ | exact VLe.int (by first | rfl | omega | (dsimp only; omega)) | exact VLe.bool rfl | exact VLe.sl rfl (by first | rfl | omega) | exact VLe.cap rfl (by first | rfl | omega) | exact VLe.im rfl rfl | omega | (refine fun id k h => ?_; simp only [hget] at h ⊢; (repeat' (split at h)) <;> first | (cases h; done) | (simp (disch := omega) only [if_pos, if_neg]; exact h)))))
    · have q1 := decide_eq_false (p := (i : Int) < (l.length : Int)) (by omega)
      have hil : i = l.length := by omega
      have hAF : W = FF := by rw [← hF2, hil, List.drop_length]; rfl
      subst hAF
      obtain ⟨z1, z2, z3, z4, z5, z6⟩ := hI.nes
      have la := hI.la
      have hFr := rI_rows hFM
      have x1 := hge p (by simp)
      have x2 := hge oM (by simp)
      have hWl := hW.len
      have hrow : ∀ C D : List V, ∀ k, k < a.length → hget ((1, (⟨29, C, false⟩ : Blk)) :: (0, ⟨29, D, false⟩) :: wkH p oM oU oV h w a b c0 W) (a.getD k 0) = some ⟨54, (rI F).getD k [], false⟩ := by
        intro C D k hk
        obtain ⟨gR, y1, y2, y3, y4, y5⟩ := hI.row hWl (q := k) (by omega)
        have x3 := hge (a.getD k 0) (by simp only [List.mem_cons, List.mem_append]; exact .inr (.inr (.inr (.inr (.inl (.inl (getD_mem' hk)))))))
        rw [hI.iM (by omega)] at gR y1 y2 y3 y4 y5
        unfold wkH
        simp only [hget]
        rw [if_neg (by omega), if_neg (by omega), if_neg y2, if_neg y3, if_neg y4, if_neg y5, gR, rI_getD, ← eF, take_get (by omega)]
      have g1 := slR_len 2 w a
      rw [la] at g1
      rw [hFl]
      clear hK2 hF2 c1 c2
      by_cases h0 : h = 0
      · subst h0
        have ha : a = [] := List.eq_nil_of_length_eq_zero (by omega)
        have hFe : F = [] := List.eq_nil_of_length_eq_zero (by omega)
        subst ha; subst hFe
        unfold wkH workC at *
        (repeat (first | refine DO.nilF (fun i => i + 1 - nx) (by simp (disch := omega) only [go_sem, ↓reduceIte, zn1, zn2, zn3, zn4, zn5, zn6, reduceCtorEq, zn7, zi1, zi2, if_pos, if_neg, List.map_cons, List.map_nil, Option.map_some, Option.map_none, Nat.add_sub_cancel_left, Nat.sub_eq_zero_of_le, Nat.add_assoc, zn4] <;> rfl) (by kernel_rfl) ?_ | (with_reducible refine SC.condB (by simp (disch := omega) only [go_sem, ↓reduceIte]; rfl) ?_; first | with_reducible refine pickT ?_ | with_reducible refine pickF ?_) | (with_reducible first | apply oz1 | apply oz2 | apply oz3 | apply oz4 | apply oz5 | apply oz6 | apply oz7 | apply oz8 | apply oz9 | apply ozb | apply ozc | apply oze | apply ozf | apply ozg | apply ozh | apply ozi | apply ozj | apply ozk | refine ozd (by decide) ?_) | ((with_reducible apply SC.region); (focus (simp (disch := omega) only [go_sem, ↓reduceIte, zn1, zn2, zn3, zn4, reduceCtorEq, if_neg, q1]; rfl))) | (with_reducible refine SC.draw Tab.mixed rfl ?_; (repeat (refine DO.run (by simp (disch := omega) only [go_sem, ↓reduceIte, zn1, zn2, zn3, zn4, zn5, zn6, reduceCtorEq, zn7, zi1, zi2, if_pos, if_neg, q1, z1, z2, z3, z4, z5, z6]; rfl) ?_)); refine DO.nilF (fun i => i + 1 - nx) (by simp (disch := omega) only [go_sem, ↓reduceIte, zn1, zn2, zn3, zn4, zn5, zn6, reduceCtorEq, zn7, zi1, zi2, if_pos, if_neg, List.map_cons, List.map_nil, Option.map_some, Option.map_none, Nat.add_sub_cancel_left, Nat.sub_eq_zero_of_le, Nat.add_assoc, zn4] <;> rfl) (by kernel_rfl) ?_)))
        exact retQ_ret Try.results24 (by simp (disch := omega) only [go_sem, ↓reduceIte, zn1, zn3, zn4, reduceCtorEq] <;> rfl) (by simp (disch := omega) only [go_sem, ↓reduceIte, if_pos, if_neg, z1] <;> rfl) rfl
      · have hsl := slR_some (z := 2) (m := w) (ids := a) (by omega)
        have hfz := fun C D : List V => frz_rowsA (n := 4) (z := 2) (m := w) (ty := 54) (ids := a) (rs := rI F) (by omega) (by rw [rI_len]; omega) (hrow C D) hFr
        have ht : (slR 2 w a).take h = slR 2 w a := List.take_of_length_le (by omega)
        unfold wkH workC at *
        (repeat (first | refine DO.nilF (fun i => i + 1 - nx) (by simp (disch := omega) only [go_sem, ↓reduceIte, zn1, zn2, zn3, zn4, zn5, zn6, reduceCtorEq, zn7, zi1, zi2, if_pos, if_neg, List.map_cons, List.map_nil, Option.map_some, Option.map_none, Nat.add_sub_cancel_left, Nat.sub_eq_zero_of_le, Nat.add_assoc, zn4] <;> rfl) (by kernel_rfl) ?_ | (with_reducible refine SC.condB (by simp (disch := omega) only [go_sem, ↓reduceIte]; rfl) ?_; first | with_reducible refine pickT ?_ | with_reducible refine pickF ?_) | (with_reducible first | apply oz1 | apply oz2 | apply oz3 | apply oz4 | apply oz5 | apply oz6 | apply oz7 | apply oz8 | apply oz9 | apply ozb | apply ozc | apply oze | apply ozf | apply ozg | apply ozh | apply ozi | apply ozj | apply ozk | refine ozd (by decide) ?_) | ((with_reducible apply SC.region); (focus (simp (disch := omega) only [go_sem, ↓reduceIte, zn1, zn2, zn3, zn4, reduceCtorEq, if_neg, q1]; rfl))) | (with_reducible refine SC.draw Tab.mixed rfl ?_; (repeat (refine DO.run (by simp (disch := omega) only [go_sem, ↓reduceIte, zn1, zn2, zn3, zn4, zn5, zn6, reduceCtorEq, zn7, zi1, zi2, if_pos, if_neg, q1, z1, z2, z3, z4, z5, z6]; rfl) ?_)); refine DO.nilF (fun i => i + 1 - nx) (by simp (disch := omega) only [go_sem, ↓reduceIte, zn1, zn2, zn3, zn4, zn5, zn6, reduceCtorEq, zn7, zi1, zi2, if_pos, if_neg, List.map_cons, List.map_nil, Option.map_some, Option.map_none, Nat.add_sub_cancel_left, Nat.sub_eq_zero_of_le, Nat.add_assoc, zn4] <;> rfl) (by kernel_rfl) ?_)))
        exact retQ_ret Try.results24 (by simp (disch := omega) only [go_sem, ↓reduceIte, zn1, zn3, zn4, reduceCtorEq] <;> rfl) (by simp (disch := omega) only [go_sem, ↓reduceIte, if_pos, if_neg, hfz, hsl, ht, g1, z1] <;> rfl) rfl
end Go.Proofs.Ytfhcmibgpddggaa
namespace Go.Proofs.Ytfhcmibgpddggaa
open Go.RowKit
theorem lmatrix_s {n : Nat} {l : List OpL} (hl : ∀ o ∈ l, OkOp n o) (hK : l.length ≤ 1000) (hn : n ≤ 64) :
    Spec Try.prog 20 [.im (opsC l) l.length, .sc (.int .i64 n)] (.tu [mat n (actsO (idL n) l), .sc (.int .i64 0)]) := by
  have c1 := rident_s n (by omega)
  have c2 := lapply_s (h := n) (w := n) (K := 1) (M := idL n) (mk_mi fun r c _ _ => fits01) hl (by omega) (by omega) (by omega)
  have q1 : decide ((n : Int) < 0) = false := decide_eq_false (by omega)
  have q2 : decide ((64 : Int) < (n : Int)) = false := decide_eq_false (by omega)
  generalize idL n = I at *
  generalize actsO I l = F at *
  unfold mat at *
  refine Spec.run Try.func20 rfl Try.ntmps20 (by simp) (by simp (disch := omega) only [go_sem, zn4]; rfl) fun B hB => ?_
  (repeat (first | refine DO.nil (by kernel_rfl) ?_ | (with_reducible first | apply oz1 | apply oz2 | apply oz3 | apply oz4 | apply oz5 | apply oz6 | apply oz7 | apply oz8 | apply oz9 | apply ozb | apply ozc | apply oze | apply ozf | apply ozg | apply ozh | apply ozi | apply ozj | apply ozk | refine ozd (by decide) ?_) | ((first | apply SO.call | apply DO.call); (iterate 3 (focus (simp (disch := omega) only [go_sem, ↓reduceIte, zn1] <;> rfl))); (first | apply SCall.ofX | apply DCall.ofX); (focus (first | assumption)); (focus (simp (disch := omega) only [go_sem] <;> rfl))) | ((with_reducible first | apply SC.condB | apply SC.region | apply SO.run | apply DO.run); (focus (simp (disch := omega) only [go_sem, ↓reduceIte, zn1, zn2, zn3, zn4, reduceCtorEq, q1, q2] <;> rfl)); (first | refine pickT ?_ | refine pickF ?_ | fail_if_success with_reducible refine pickA ?_)) | ((with_reducible refine SC.draw Tab.mixed ?_ ?_); (focus (first | rfl | simp (disch := omega) only [go_sem, ↓reduceIte, zn1, zn2, zn3, zn4, zn5, zn6, reduceCtorEq, zn7, zi1, zi2, if_pos, if_neg, q1, q2]))) | (with_reducible apply SC.ops)))
  exact retQ_ret Try.results20 (by simp (disch := omega) only [go_sem, ↓reduceIte, zn1, zn3, zn4] <;> rfl) (by simp (disch := omega) only [go_sem, ↓reduceIte] <;> rfl) rfl
set_option maxHeartbeats 4000000 in
set_option maxRecDepth 8000 in
theorem linv_s {n : Nat} {l : List OpL} (h : ∀ o ∈ l, OkOp n o) (hl : l.length ≤ 1000000) : Spec Try.prog 21 [.im (opsC l) l.length] (.im (opsC (invL l)) l.length) := by
  refine Spec.run Try.func21 rfl Try.ntmps21 (by simp) (by simp (disch := omega) only [go_sem]; rfl) fun B hB => ?_
  (repeat (first | refine DO.nil (by kernel_rfl) ?_ | (with_reducible first | apply oz1 | apply oz2 | apply oz3 | apply oz4 | apply oz5 | apply oz6 | apply oz7 | apply oz8 | apply oz9 | apply ozb | apply ozc | apply oze | apply ozf | apply ozg | apply ozh | apply ozi | apply ozj | apply ozk | refine ozd (by decide) ?_) | ((first | apply SO.call | apply DO.call); (iterate 3 (focus (simp (disch := omega) only [go_sem, ↓reduceIte, zn1, zn2, zn3, zn4, zn5, zn6, reduceCtorEq, zn7, zi1, zi2, if_pos, if_neg] <;> rfl))); (first | apply SCall.ofX | apply DCall.ofX); (focus (first | assumption)); (focus (simp (disch := omega) only [go_sem, ↓reduceIte, zn1, zn2, zn3, zn4, zn5, zn6, reduceCtorEq, zn7, zi1, zi2, if_pos, if_neg] <;> rfl))) | ((with_reducible first | apply SC.condB | apply SC.region | apply SO.run | apply DO.run); (focus (simp (disch := omega) only [go_sem, ↓reduceIte, zn3, zn4, reduceCtorEq] <;> rfl)); (first | refine pickT ?_ | refine pickF ?_ | fail_if_success with_reducible refine pickA ?_)) | ((with_reducible refine SC.draw Tab.mixed ?_ ?_); (focus (first | rfl | simp (disch := omega) only [go_sem, ↓reduceIte, zn1, zn2, zn3, zn4, zn5, zn6, reduceCtorEq, zn7, zi1, zi2, if_pos, if_neg]))) | (with_reducible apply SC.ops)))
  refine SC.loop (fun k : Nat => ⟨[(0, .im (opsC l) l.length), (3, .sl 0 0 k 5 none), (4, .sc (.int .i64 ((l.length : Int) - 1 - (k : Int))))], [(0, ⟨56, opsC ((invL l).take k), false⟩)], 1, 27⟩)
    (fun k => k ≤ l.length) (fun k => l.length - k) 0 ?_ ?_ ?_
  · refine Le.map (fun i => i) (fun i => i < 1) hB (fun i hi => by omega) (fun i h => h) (fun i j _ _ e => e) ?_ (fun i k' hk' hlt => ?_)
    · have e : (l.length : Int) - 1 - ((0 : Nat) : Int) = (l.length : Int) - 1 := by omega
      rw [e]
      (repeat' (first | exact trivial | refine mapSl_cons (by simp (disch := omega) only [go_sem, ↓reduceIte, zn1, reduceCtorEq] <;> rfl) ?_ ?_ | exact VMap.junk _ | exact VMap.sc _ | exact VMap.clo rfl | exact VMap.sl rfl (by omega) | exact VMap.cap rfl (by omega) | exact VMap.pt rfl (by omega) | exact VMap.nil_sl _ _ _ | exact VMap.int (by first | rfl | omega | (dsimp only; omega))))
    · simp only [hget] at hk'
      split at hk'
      · rename_i e
        subst e
        cases hk'
        exact ⟨_, rfl, rfl, rfl, fun j y hy => by cases hy⟩
      · cases hk'
  · exact Nat.zero_le _
  · intro k hk K hK
    have hil := invL_len l
    have gl := opsC_len ((invL l).take k)
    rw [List.length_take, hil, Nat.min_eq_left hk, Nat.mul_comm] at gl
    by_cases hc : k < l.length
    · have q1 : decide ((0 : Int) ≤ (l.length : Int) - 1 - (k : Int)) = true := decide_eq_true (by omega)
      have hix : ((l.length : Int) - 1 - (k : Int)).toNat = l.length - 1 - k := by omega
      have g1 := opsC_drop (l := l) (i := l.length - 1 - k) (by omega)
      have g2 : (l.length - 1 - k) * 5 < (opsC l).length := by rw [opsC_len]; omega
      have hok := h _ (getD_mem (d := ⟨0, 0, 0, 0⟩) (l := l) (i := l.length - 1 - k) (by omega))
      have hts := invL_take hc
      have hone := opsC_one ((invL l).take k)
      have hnew : opsC ((invL l).take (k + 1)) = opsC ((invL l).take k) ++ opC (invO (l.getD (l.length - 1 - k) ⟨0, 0, 0, 0⟩)) := by rw [hts, opsC_app]; show _ ++ (_ ++ []) = _; rw [List.append_nil]
      have ht : (opsC ((invL l).take k)).take (k * 5) = opsC ((invL l).take k) := List.take_of_length_le (by omega)
      have hclo := opsC_clo ((invL l).take (k + 1))
      generalize l.getD (l.length - 1 - k) ⟨0, 0, 0, 0⟩ = op at *
      generalize (opsC l).drop ((l.length - 1 - k + 1) * 5) = D at *
      generalize opsC ((invL l).take k) = Z at *
      generalize hZ' : opsC ((invL l).take (k + 1)) = Z' at *
      obtain ⟨kd, a, b, f⟩ := op
      have c1 := neg_i f 1 hok.k (by omega)
      unfold opC invO at hnew
      unfold opC at g1
      unfold iv sv at c1
      unfold sv at hnew g1
      simp only [List.cons_append, List.nil_append] at g1
      simp only at hnew
      (repeat (first | refine DO.nil (by kernel_rfl) ?_ | (with_reducible first | apply oz1 | apply oz2 | apply oz3 | apply oz4 | apply oz5 | apply oz6 | apply oz7 | apply oz8 | apply oz9 | apply ozb | apply ozc | apply oze | apply ozf | apply ozg | apply ozh | apply ozi | apply ozj | apply ozk | refine ozd (by decide) ?_) | ((first | apply SO.call | apply DO.call); (iterate 3 (focus (simp (disch := omega) only [go_sem, ↓reduceIte, List.append_nil] <;> rfl))); (first | apply SCall.ofX | apply DCall.ofX); (focus (first | assumption)); (focus (simp (disch := omega) only [go_sem] <;> rfl))) | ((with_reducible first | apply SC.condB | apply SC.region | apply SO.run | apply DO.run); (focus (simp (disch := omega) only [go_sem, ↓reduceIte, zn1, zn3, zn4, zn5, reduceCtorEq, if_pos, q1, hix, g1, g2, gl, ht, reps1] <;> rfl)); (first | refine pickT ?_ | refine pickF ?_ | fail_if_success with_reducible refine pickA ?_)) | ((with_reducible refine SC.draw Tab.mixed ?_ ?_); (focus (first | rfl | simp (disch := omega) only [go_sem, ↓reduceIte, zn1, zn2, zn3, zn4, zn5, zn6, reduceCtorEq, zn7, zi1, zi2, if_pos, if_neg, q1, hix, g1, g2, gl, ht, hone, reps1, List.flatten_cons, List.flatten_nil, List.append_nil]))) | (with_reducible apply SC.ops)))
      refine hK _ (k + 1) ?_ (by omega) (by omega)
      simp only [hZ', hnew]
      rw [hnew] at hclo
      refine Le.ren 0 3 hB (by omega) (by omega) (by omega) ?_ ?_
      · (repeat' (first | exact trivial | refine mapSl_cons (by simp (disch := omega) only [go_sem, ↓reduceIte, zn1, reduceCtorEq] <;> rfl) ?_ ?_ | exact VMap.junk _ | exact VMap.sc _ | exact VMap.clo rfl | exact VMap.sl rfl (by omega) | exact VMap.cap rfl (by omega) | exact VMap.pt rfl (by omega) | exact VMap.nil_sl _ _ _ | exact VMap.int (by first | rfl | omega | (dsimp only; omega))))
      · (repeat' (first | exact mapHp_nil | refine mapHp_cons (by simp (disch := omega) only [go_sem, ↓reduceIte] <;> rfl) ?_ ?_ | exact BMap.clo (by first | rfl | assumption | exact wv_clo _ | exact imR_clo _ _ | exact nv_clo _) | refine BMap.list ?_ | exact mapL_nil | refine mapL_cons ?_ ?_ | exact VMap.junk _ | exact VMap.sc _ | exact VMap.clo rfl | exact VMap.sl rfl (by omega) | exact VMap.cap rfl (by omega) | exact VMap.pt rfl (by omega) | exact VMap.nil_sl _ _ _ | exact VMap.int (by first | rfl | omega | (dsimp only; omega))))
    · have q1 : decide ((0 : Int) ≤ (l.length : Int) - 1 - (k : Int)) = false := decide_eq_false (by omega)
      have hkl : k = l.length := by omega
      have hz : (invL l).take k = invL l := List.take_of_length_le (by omega)
      have hclo := opsC_clo (invL l)
      have ht : (opsC (invL l)).take (k * 5) = opsC (invL l) := by rw [← hz]; exact List.take_of_length_le (by omega)
      rw [hz] at gl ⊢
      rw [hkl] at gl ht
      (repeat (first | refine DO.nil (by kernel_rfl) ?_ | (with_reducible first | apply oz1 | apply oz2 | apply oz3 | apply oz4 | apply oz5 | apply oz6 | apply oz7 | apply oz8 | apply oz9 | apply ozb | apply ozc | apply oze | apply ozf | apply ozg | apply ozh | apply ozi | apply ozj | apply ozk | refine ozd (by decide) ?_) | ((first | apply SO.call | apply DO.call); (iterate 3 (focus (simp (disch := omega) only [go_sem, ↓reduceIte, zn1, zn2, zn3, zn4, zn5, zn6, reduceCtorEq, zn7, zi1, zi2, if_pos, if_neg, q1] <;> rfl))); (first | apply SCall.ofX | apply DCall.ofX); (focus (first | assumption)); (focus (simp (disch := omega) only [go_sem, ↓reduceIte, zn1, zn2, zn3, zn4, zn5, zn6, reduceCtorEq, zn7, zi1, zi2, if_pos, if_neg, q1] <;> rfl))) | ((with_reducible first | apply SC.condB | apply SC.region | apply SO.run | apply DO.run); (focus (simp (disch := omega) only [go_sem, ↓reduceIte, zn1, zn2, reduceCtorEq, q1] <;> rfl)); (first | refine pickT ?_ | refine pickF ?_ | fail_if_success with_reducible refine pickA ?_)) | ((with_reducible refine SC.draw Tab.mixed ?_ ?_); (focus (first | rfl | simp (disch := omega) only [go_sem, ↓reduceIte, zn1, zn2, zn3, zn4, zn5, zn6, reduceCtorEq, zn7, zi1, zi2, if_pos, if_neg, q1]))) | (with_reducible apply SC.ops)))
      rw [hkl]
      exact retQ_ret Try.results21 (by simp (disch := omega) only [go_sem, ↓reduceIte] <;> rfl) (by simp (disch := omega) only [go_sem, ↓reduceIte, if_pos, hclo, ht, gl] <;> rfl) rfl
end Go.Proofs.Ytfhcmibgpddggaa
