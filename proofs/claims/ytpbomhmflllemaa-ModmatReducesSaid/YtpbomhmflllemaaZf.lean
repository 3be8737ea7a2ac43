/- Texts joined: Lr Ls Lt Lu. -/
import Derived.Test.YtpbomhmflllemaaZd
import Derived.Test.YtpbomhmflllemaaZe
set_option linter.all false
/- Contract: elimination, the walk. -/
namespace Go.Proofs.Ytpbomhmflllemaa
open Go.RowKit
set_option maxHeartbeats 8000000 in
set_option maxRecDepth 4000 in
theorem echelon_s {p n w : Nat} {M0 : List (List Nat)} (hp : Pr p) (hp2 : p ≤ 2147483647) (hM0 : MV p n w M0) (cols o nx0 : Nat) (ids0 : List Nat) (hI0 : Ids o ids0 ids0 n nx0) (hc : cols ≤ w) (hn : n ≤ 1000000) (hw : w ≤ 1000000) :
    InlQ Try.prog 50 [.sc (.int .u64 p), .sl o 0 n 1 none, .sc (.int .i64 cols)] ((o, ⟨44, slR 1 w ids0, false⟩) :: rowsH 26 ids0 (nR M0)) nx0 (EchQ p w o ids0 cols M0 nx0) := by
  have hp1 := hp.1
  refine InlQ.run Try.func50 rfl Try.ntmps50 (by simp) (by simp (disch := omega) only [go_sem, Nat.reduceAdd]; rfl) fun B hB => ?_
  (repeat (first | (first | refine DO.nilC (by kernel_rfl) ?_ | refine DO.nil (by kernel_rfl) ?_) | (with_reducible first | apply oz1 | apply oz2 | apply oz3 | apply oz4 | apply oz5 | apply oz6 | apply oz7 | apply oz8 | apply oz9 | apply ozb | apply ozc | apply oze | apply ozf | apply ozg | apply ozh | apply ozi | apply ozj | apply ozk | refine ozd (by decide) ?_) | ((first | apply SO.call | apply DO.call); (iterate 3 (focus (simp (disch := omega) only [go_sem, ↓reduceIte, Nat.reduceEqDiff, Nat.reduceLT, Nat.reduceLeDiff, Nat.reduceAdd, Nat.reduceMul, Nat.reduceSub, reduceCtorEq, Nat.reduceBEq, Int.reduceToNat, Int.reducePow, if_pos, if_neg] <;> rfl))); (first | apply SCall.ofX | apply DCall.ofX); (focus (first | assumption)); (focus (simp (disch := omega) only [go_sem, ↓reduceIte, Nat.reduceEqDiff, Nat.reduceLT, Nat.reduceLeDiff, Nat.reduceAdd, Nat.reduceMul, Nat.reduceSub, reduceCtorEq, Nat.reduceBEq, Int.reduceToNat, Int.reducePow, if_pos, if_neg] <;> rfl))) | ((with_reducible first | apply SC.condB | apply SC.region | apply SO.run | apply DO.run); (focus (simp (disch := omega) only [go_sem, ↓reduceIte] <;> rfl)); (first | refine pickT ?_ | refine pickF ?_ | fail_if_success with_reducible refine pickA ?_)) | ((with_reducible refine SC.draw Tab.mixed ?_ ?_); (focus (first | rfl | simp (disch := omega) only [go_sem, ↓reduceIte, Nat.reduceEqDiff, Nat.reduceLT, Nat.reduceLeDiff, Nat.reduceAdd, Nat.reduceMul, Nat.reduceSub, reduceCtorEq, Nat.reduceBEq, Int.reduceToNat, Int.reducePow, if_pos, if_neg]))) | (with_reducible apply SC.ops)))
  refine SC.loop (fun x : Nat × List (List Nat) × List Nat × List Nat × Nat × Nat => ⟨[(0, .sc (.int .u64 p)), (1, .sl o 0 n 1 none), (2, .sc (.int .i64 cols)), (7, .sl x.2.2.2.2.1 0 x.2.2.1.length 1 none), (8, .sc (.int .i64 x.1))], (x.2.2.2.2.1, ⟨3, wv x.2.2.1, false⟩) :: (o, ⟨44, slR 1 w x.2.2.2.1, false⟩) :: rowsH 26 x.2.2.2.1 (nR x.2.1), x.2.2.2.2.2, 113⟩)
    (fun x => x.1 ≤ cols ∧ MV p n w x.2.1 ∧ Ids o ids0 x.2.2.2.1 n nx0 ∧ x.2.2.1.length ≤ n ∧ nx0 ≤ x.2.2.2.2.1 ∧ x.2.2.2.2.1 < x.2.2.2.2.2 ∧ elimGo p (cols - x.1) x.1 x.2.1 x.2.2.1 = elimL p cols M0) (fun x => cols - x.1) (0, M0, [], ids0, nx0, nx0 + 1) ?_ ?_ ?_
  · refine Le.map (fun i => i) (fun i => i < nx0) hB (fun i hi => ⟨hi, rfl⟩) (fun i hi => by simp only; omega) (fun i j _ _ e => e) ?_ fun i k' hk' hlt => ?_
    · have := hI0.o1
      (repeat' (first | exact trivial | refine mapSl_cons (by simp (disch := omega) only [go_sem, ↓reduceIte, Nat.reduceEqDiff, reduceCtorEq] <;> rfl) ?_ ?_ | exact VMap.junk _ | exact VMap.sc _ | exact VMap.clo rfl | exact VMap.sl rfl (by omega) | exact VMap.cap rfl (by omega) | exact VMap.pt rfl (by omega) | exact VMap.nil_sl _ _ _ | exact VMap.int (by first | rfl | omega | (dsimp only; omega))))
    · simp only [hget] at hk'
      rw [if_neg (by omega)] at hk'
      have hcase : hget ((o, (⟨44, slR 1 w ids0, false⟩ : Blk)) :: rowsH 26 ids0 (nR M0)) i = some k' := hk'
      show BMap _ _ (hget ((o, (⟨44, slR 1 w ids0, false⟩ : Blk)) :: rowsH 26 ids0 (nR M0)) i) k'
      rw [hcase]
      by_cases e : i = o
      · rw [if_pos e] at hk'
        cases hk'
        refine ⟨_, rfl, rfl, rfl, fun j y hy => ⟨y, hy, ?_⟩⟩
        obtain ⟨q, hq, rfl⟩ := List.mem_map.1 (List.mem_of_getElem? hy)
        exact VMap.sl rfl (hI0.lt q hq)
      · rw [if_neg e] at hk'
        obtain ⟨q, q1, q2, q3, rfl⟩ := rows_inv hk'
        rw [nR_getD]
        exact BMap.clo (nv_clo _)
  · exact ⟨Nat.zero_le _, hM0, hI0, Nat.zero_le _, Nat.le_refl _, Nat.lt_succ_self _, rfl⟩
  · rintro ⟨c, M, pv, ids, q0, nx⟩ ⟨hcc, hM, hI, hk, hq0, hqx, hE⟩ K hK
    simp only at hcc hM hI hk hq0 hqx hE ⊢
    have hl := hM.1
    have hidl := hI.len
    have g1 := slR_len 1 w ids
    rw [hidl] at g1
    by_cases hgo : c < cols ∧ pv.length < n
    · obtain ⟨hcl, hkn⟩ := hgo
      have q1 := decide_eq_true (p := (c : Int) < (cols : Int)) (by omega)
      have q2 := decide_eq_true (p := (pv.length : Int) < (n : Int)) (by omega)
      have ht : (slR 1 w ids).take n = slR 1 w ids := List.take_of_length_le (by omega)
      have hrows : ∀ k, k < ids.length → hget ((q0, (⟨3, wv pv, false⟩ : Blk)) :: (o, ⟨44, slR 1 w ids, false⟩) :: rowsH 26 ids (nR M)) (ids.getD k 0) = some ⟨26, (nR M).getD k [], false⟩ := by
        intro k hk
        have hm := getD_mem' hk
        have := hI.lt _ hm
        simp only [hget]
        rw [if_neg (by omega), if_neg (fun e => hI.o2 (by rw [← e]; exact hm))]
        exact rows_get hI.nod hk (by rw [nR_len]; omega)
      have hal := slR_some (z := 1) (m := w) (ids := ids) (by omega)
      have hfz := frz_rowsA (n := 6) (z := 1) (m := w) (hp := (q0, (⟨3, wv pv, false⟩ : Blk)) :: (o, ⟨44, slR 1 w ids, false⟩) :: rowsH 26 ids (nR M)) (ty := 26) (ids := ids) (rs := nR M) (by omega) (by rw [nR_len]; omega) hrows (nR_rows hM)
      have c1 := search_s hM pv.length c hk (by omega) hn hw
      unfold mv at c1
      have hsi := searchL_inv (M := M) (c := c) (f := n - pv.length) (k := pv.length)
      rw [show cols - c = (cols - (c + 1)) + 1 by omega, elimGo, if_pos (by omega), hl] at hE
      rw [hl] at c1
      have ho := hI.o1
      cases hs : searchL M c (n - pv.length) pv.length with
      | none =>
        rw [hs] at c1 hE
        simp only [srV] at c1 hE
        have q3 : decide ((-1 : Int) < 0) = true := by decide
        (repeat (first | (first | refine DO.nilC (by kernel_rfl) ?_ | refine DO.nil (by kernel_rfl) ?_) | (with_reducible first | apply oz1 | apply oz2 | apply oz3 | apply oz4 | apply oz5 | apply oz6 | apply oz7 | apply oz8 | apply oz9 | apply ozb | apply ozc | apply oze | apply ozf | apply ozg | apply ozh | apply ozi | apply ozj | apply ozk | refine ozd (by decide) ?_) | ((first | apply SO.call | apply DO.call); (iterate 3 (focus (simp (disch := omega) only [go_sem, ↓reduceIte, Nat.reduceEqDiff, if_pos, if_neg, hal, hfz, ht, g1] <;> rfl))); (first | apply SCall.ofX | apply DCall.ofX); (focus (first | assumption)); (focus (simp (disch := omega) only [go_sem] <;> rfl))) | ((with_reducible first | apply SC.condB | apply SC.region | apply SO.run | apply DO.run); (focus (simp (disch := omega) only [go_sem, ↓reduceIte, Nat.reduceEqDiff, reduceCtorEq, q1, q2, q3] <;> rfl)); (first | refine pickT ?_ | refine pickF ?_ | fail_if_success with_reducible refine pickA ?_)) | ((with_reducible refine SC.draw Tab.mixed ?_ ?_); (focus (first | rfl | simp (disch := omega) only [go_sem, ↓reduceIte, Nat.reduceEqDiff, Nat.reduceLT, Nat.reduceLeDiff, Nat.reduceAdd, Nat.reduceMul, Nat.reduceSub, reduceCtorEq, Nat.reduceBEq, Int.reduceToNat, Int.reducePow, if_pos, if_neg, q1, q2, q3, hal, hfz, ht, g1]))) | (with_reducible apply SC.ops)))
        refine hK _ (c + 1, M, pv, ids, q0, nx) ?_ ⟨by simp only; omega, hM, hI, by simp only; omega, hq0, hqx, hE⟩ (by simp only; omega)
        (refine Le.slots ?_ ?_ ?_ <;> (repeat' (first | (exact fun _ _ h => h) | exact Nat.le_refl _ | exact leSl_nil | refine leSl_cons (by simp (disch := omega) only [go_sem, ↓reduceIte, Nat.reduceEqDiff, reduceCtorEq] <;> rfl) ?_ ?_ | exact VLe.junk _ | exact VLe.refl rfl | exact VLe.nil_sl _ _ _ | exact VLe.int (by first | rfl | omega | (dsimp only; omega)) | exact VLe.bool rfl | exact VLe.sl rfl (by first | rfl | omega) | exact VLe.cap rfl (by first | rfl | omega) | exact VLe.im rfl rfl | omega | (refine fun id k h => ?_; simp only [hget] at h ⊢; (repeat' (split at h)) <;> first | (cases h; done) | (simp (disch := omega) only [if_pos, if_neg]; exact h)))))
      | some q =>
        rw [hs] at c1 hE hsi
        simp only [srV] at c1 hE hsi
        obtain ⟨s1, s2, s3, s4⟩ := hsi
        have hqn : q < n := by omega
        have q3 : decide ((q : Int) < 0) = false := decide_eq_false (by omega)
        have gq := slR_get (z := 1) (m := w) (ids := ids) (k := q) (by omega)
        have gk := slR_get (z := 1) (m := w) (ids := ids) (k := pv.length) (by omega)
        have hkl := klB_rows (ty := 26) (rs := nR M) (n := nx) (fun j hj => by have := hI.lt j hj; omega)
        have hsw : (ids.set pv.length (ids.getD q 0)).set q (ids.getD pv.length 0) = swapN ids pv.length q := rfl
        (repeat (first | (first | refine DO.nilC (by kernel_rfl) ?_ | refine DO.nil (by kernel_rfl) ?_) | (with_reducible first | apply oz1 | apply oz2 | apply oz3 | apply oz4 | apply oz5 | apply oz6 | apply oz7 | apply oz8 | apply oz9 | apply ozb | apply ozc | apply oze | apply ozf | apply ozg | apply ozh | apply ozi | apply ozj | apply ozk | refine ozd (by decide) ?_) | ((first | apply SO.call | apply DO.call); (iterate 3 (focus (simp (disch := omega) only [go_sem, ↓reduceIte, Nat.reduceEqDiff, if_pos, if_neg, hal, hfz, ht, g1] <;> rfl))); (first | apply SCall.ofX | apply DCall.ofX); (focus (first | assumption)); (focus (simp (disch := omega) only [go_sem] <;> rfl))) | ((with_reducible first | apply SC.condB | apply SC.region | apply SO.run | apply DO.run); (focus (simp (disch := omega) only [go_sem, ↓reduceIte, Nat.reduceEqDiff, reduceCtorEq, if_pos, if_neg, q1, q2, q3, g1, gq, gk, slR_set, slR_len, List.length_set, hidl, hsw] <;> rfl)); (first | refine pickT ?_ | refine pickF ?_ | fail_if_success with_reducible refine pickA ?_)) | ((with_reducible refine SC.draw Tab.mixed ?_ ?_); (focus (first | rfl | simp (disch := omega) only [go_sem, if_pos, hkl]))) | (with_reducible apply SC.ops)))
        refine SO.weak (Le.less (less_cons (less_cons (rows_swap (ids := ids) (M := M) (k := pv.length) (q := q) hI.nod (by omega) (by omega) (by omega)))) (Nat.le_refl _)) ?_
        have hM1 := swapL_mv hM hkn hqn
        have hI1 := hI.swap hkn hqn
        have eM1 : (swapL M pv.length q).getD pv.length [] = M.getD q [] := by
          rw [swapL_get (by omega) (by omega)]
          by_cases e : pv.length = q
          · rw [if_pos e, e]
          · rw [if_neg e, if_pos rfl]
        have hst : stepL p M pv.length q c = clearTo p pv.length c n (pivRow p c (M.getD q [])) ((swapL M pv.length q).set pv.length (pivRow p c (M.getD q []))) := by unfold stepL; rw [hl]
        rw [hst] at hE
        have hx : (M.getD q []).getD c 0 = ent M q c := rfl
        have hxl : ent M q c < p := hM.lt hqn (by omega)
        have hr := hM.get hqn
        clear hfz hal gq gk hrows hst hs c1 hkl g1 ht hsw
        generalize ent M q c = x at *
        generalize M.getD q [] = r at *
        generalize swapL M pv.length q = M1 at *
        generalize swapN ids pv.length q = ids1 at *
        have hl1 := hM1.1
        have hid1 := hI1.len
        have hmem := getD_mem' (ids := ids1) (k := pv.length) (by omega)
        have gk := slR_get (z := 1) (m := w) (ids := ids1) (k := pv.length) (by omega)
        have gR := rows_get (ty := 26) (rs := nR M1) (k := pv.length) hI1.nod (by omega) (by rw [nR_len]; omega)
        rw [nR_getD, eM1] at gR
        have hrl := hr.1
        have gl := nv_len r
        have gx := nv_get (r := r) (j := c) (by omega)
        rw [hx] at gx
        have hne1 : ids1.getD pv.length 0 ≠ o := fun e => hI1.o2 (by rw [← e]; exact hmem)
        have hne2 := hI1.lt _ hmem
        have c2 := mInv_s p x (by omega) (by omega) hxl s3
        have hb := Nat.mod_lt (x ^ (p - 2)) (y := p) (by omega)
        -- the row is scaled
        have hpr : pivRow p c r = scaleL p (x ^ (p - 2) % p) r := by unfold pivRow; rw [hx]
        have hrw := pivRow_rw (p := p) (c := c) (by omega) hrl
        rw [hpr] at hE hrw
        generalize x ^ (p - 2) % p = b at *
        (repeat (first | (first | refine DO.nilC (by kernel_rfl) ?_ | refine DO.nil (by kernel_rfl) ?_) | (with_reducible first | apply oz1 | apply oz2 | apply oz3 | apply oz4 | apply oz5 | apply oz6 | apply oz7 | apply oz8 | apply oz9 | apply ozb | apply ozc | apply oze | apply ozf | apply ozg | apply ozh | apply ozi | apply ozj | apply ozk | refine ozd (by decide) ?_) | ((first | apply SO.call | apply DO.call); (iterate 3 (focus (simp (disch := omega) only [go_sem, ↓reduceIte, Nat.reduceEqDiff] <;> rfl))); (first | apply SCall.ofX | apply DCall.ofX); (focus (first | assumption)); (focus (simp (disch := omega) only [go_sem] <;> rfl))) | ((with_reducible first | apply SC.condB | apply SC.region | apply SO.run | apply DO.run); (focus (simp (disch := omega) only [go_sem, ↓reduceIte, Nat.reduceEqDiff, reduceCtorEq, if_pos, if_neg, gk, gR, gx] <;> rfl)); (first | refine pickT ?_ | refine pickF ?_ | fail_if_success with_reducible refine pickA ?_)) | ((with_reducible refine SC.draw Tab.mixed ?_ ?_); (focus (first | rfl | simp (disch := omega) only [go_sem, ↓reduceIte, Nat.reduceEqDiff, Nat.reduceLT, Nat.reduceLeDiff, Nat.reduceAdd, Nat.reduceMul, Nat.reduceSub, reduceCtorEq, Nat.reduceBEq, Int.reduceToNat, Int.reducePow, if_pos, if_neg, gk, gR, gl, gx, slR_len, hid1, List.getElem?_drop]))) | (with_reducible apply SC.ops)))
        refine SC.loop (fun t : Nat => ⟨[(0, .sc (.int .u64 p)), (1, .sl o 0 n 1 none), (2, .sc (.int .i64 cols)), (7, .sl q0 0 pv.length 1 none), (8, .sc (.int .i64 c)), (9, .sc (.int .i64 pv.length)), (11, .sc (.int .u64 b)), (66, .sl (ids1.getD pv.length 0) 0 w 1 none), (67, .sc (.int .i64 w)), (68, .sc (.int .i64 t))], (q0, ⟨3, wv pv, false⟩) :: (o, ⟨44, slR 1 w ids1, false⟩) :: rowsH 26 ids1 (nR (M1.set pv.length (scPre p b t r))), nx, 113⟩) (fun t => t ≤ w) (fun t => w - t) 0 ?_ ?_ ?_
        · have e : M1.set pv.length (scPre p b 0 r) = M1 := by
            rw [scPre_zero, ← eM1]
            refine mat_ext (by simp) fun i hi => ?_
            rw [getD_set (by omega)]
            by_cases e : i = pv.length
            · rw [if_pos e, e]
            · rw [if_neg e]
          rw [e]
          (refine Le.slots ?_ ?_ ?_ <;> (repeat' (first | (exact fun _ _ h => h) | exact Nat.le_refl _ | exact leSl_nil | refine leSl_cons (by simp (disch := omega) only [go_sem, ↓reduceIte, Nat.reduceEqDiff, reduceCtorEq] <;> rfl) ?_ ?_ | exact VLe.junk _ | exact VLe.refl rfl | exact VLe.nil_sl _ _ _ | exact VLe.int (by first | rfl | omega | (dsimp only; omega)) | exact VLe.bool rfl | exact VLe.sl rfl (by first | rfl | omega) | exact VLe.cap rfl (by first | rfl | omega) | exact VLe.im rfl rfl | omega | (refine fun id k h => ?_; simp only [hget] at h ⊢; (repeat' (split at h)) <;> first | (cases h; done) | (simp (disch := omega) only [if_pos, if_neg]; exact h)))))
        · exact Nat.zero_le _
        · intro t ht K2 hK2
          have hkl := klB_rows (ty := 26) (rs := nR (M1.set pv.length (scPre p b t r))) (n := nx) (fun j hj => by have := hI1.lt j hj; omega)
          by_cases htw : t < w
          · have q4 := decide_eq_true (p := (t : Int) < (w : Int)) (by omega)
            have gR2 := rows_get (ty := 26) (rs := nR (M1.set pv.length (scPre p b t r))) (k := pv.length) hI1.nod (by omega) (by rw [nR_len]; simp; omega)
            rw [nR_getD, getD_set (by omega), if_pos rfl] at gR2
            have gl2 := nv_len (scPre p b t r)
            rw [scPre_len] at gl2
            have gx2 := nv_get (r := scPre p b t r) (j := t) (by rw [scPre_len]; omega)
            rw [scPre_get (by omega), if_neg (by omega)] at gx2
            have yl := hr.lt htw
            have c3 := mMul_s p b (r.getD t 0) (by omega) (by omega) hb yl
            have hsv := nv_set (scPre p b t r) t (b * r.getD t 0 % p)
            rw [scPre_set (by omega)] at hsv
            have hrs := rows_set (ty := 26) (rs := nR (M1.set pv.length (scPre p b t r))) (k := pv.length) (r := nv (scPre p b (t + 1) r)) hI1.nod (by omega) (by rw [nR_len]; simp; omega)
            rw [nR_set, List.set_set] at hrs
            generalize r.getD t 0 = y at *
            generalize b * y % p = z at *
            generalize hH : rowsH 26 ids1 (nR (M1.set pv.length (scPre p b t r))) = H at *
            generalize hA : scPre p b t r = A at *
            generalize hidk : ids1.getD pv.length 0 = idk at *
            (repeat (first | (first | refine DO.nilC (by kernel_rfl) ?_ | refine DO.nil (by kernel_rfl) ?_) | (with_reducible first | apply oz1 | apply oz2 | apply oz3 | apply oz4 | apply oz5 | apply oz6 | apply oz7 | apply oz8 | apply oz9 | apply ozb | apply ozc | apply oze | apply ozf | apply ozg | apply ozh | apply ozi | apply ozj | apply ozk | refine ozd (by decide) ?_) | ((first | apply SO.call | apply DO.call); (iterate 3 (focus (simp (disch := omega) only [go_sem, ↓reduceIte, Nat.reduceEqDiff] <;> rfl))); (first | apply SCall.ofX | apply DCall.ofX); (focus (first | assumption)); (focus (simp (disch := omega) only [go_sem] <;> rfl))) | ((with_reducible first | apply SC.condB | apply SC.region | apply SO.run | apply DO.run); (focus (simp (disch := omega) only [go_sem, ↓reduceIte, Nat.reduceEqDiff, reduceCtorEq, if_pos, if_neg, q4, gk, gR2, gl2, gx2, hsv, hrs, hrl] <;> rfl)); (first | refine pickT ?_ | refine pickF ?_ | fail_if_success with_reducible refine pickA ?_)) | ((with_reducible refine SC.draw Tab.mixed ?_ ?_); (focus (first | rfl | simp (disch := omega) only [go_sem, if_pos, hkl]))) | (with_reducible apply SC.ops)))
            refine hK2 _ (t + 1) ?_ (by omega) (by omega)
            (refine Le.slots ?_ ?_ ?_ <;> (repeat' (first | (exact fun _ _ h => h) | exact Nat.le_refl _ | exact leSl_nil | refine leSl_cons (by simp (disch := omega) only [go_sem, ↓reduceIte, Nat.reduceEqDiff, reduceCtorEq] <;> rfl) ?_ ?_ | exact VLe.junk _ | exact VLe.refl rfl | exact VLe.nil_sl _ _ _ | exact VLe.int (by first | rfl | omega | (dsimp only; omega)) | exact VLe.bool rfl | exact VLe.sl rfl (by first | rfl | omega) | exact VLe.cap rfl (by first | rfl | omega) | exact VLe.im rfl rfl | omega | (refine fun id k h => ?_; simp only [hget] at h ⊢; (repeat' (split at h)) <;> first | (cases h; done) | (simp (disch := omega) only [if_pos, if_neg]; exact h)))))
          · have q4 := decide_eq_false (p := (t : Int) < (w : Int)) (by omega)
            have htw' : w = t := by omega
            subst htw'
            rw [scPre_end hrl]
            rw [scPre_end hrl] at hkl
            have hM2 := hM1.set (i := pv.length) hrw
            have eM2 : (M1.set pv.length (scaleL p b r)).getD pv.length [] = scaleL p b r := by rw [getD_set (by omega), if_pos rfl]
            generalize M1.set pv.length (scaleL p b r) = M2 at *
            generalize scaleL p b r = rk at *
            have hl2 := hM2.1
            clear c2 gx gR hpr
            (repeat (first | (first | refine DO.nilC (by kernel_rfl) ?_ | refine DO.nil (by kernel_rfl) ?_) | (with_reducible first | apply oz1 | apply oz2 | apply oz3 | apply oz4 | apply oz5 | apply oz6 | apply oz7 | apply oz8 | apply oz9 | apply ozb | apply ozc | apply oze | apply ozf | apply ozg | apply ozh | apply ozi | apply ozj | apply ozk | refine ozd (by decide) ?_) | ((first | apply SO.call | apply DO.call); (iterate 3 (focus (simp (disch := omega) only [go_sem, ↓reduceIte, Nat.reduceEqDiff, Nat.reduceLT, Nat.reduceLeDiff, Nat.reduceAdd, Nat.reduceMul, Nat.reduceSub, reduceCtorEq, Nat.reduceBEq, Int.reduceToNat, Int.reducePow, if_pos, if_neg, q4, gk, hkl, slR_len, hid1] <;> rfl))); (first | apply SCall.ofX | apply DCall.ofX); (focus (first | assumption)); (focus (simp (disch := omega) only [go_sem, ↓reduceIte, Nat.reduceEqDiff, Nat.reduceLT, Nat.reduceLeDiff, Nat.reduceAdd, Nat.reduceMul, Nat.reduceSub, reduceCtorEq, Nat.reduceBEq, Int.reduceToNat, Int.reducePow, if_pos, if_neg, q4, gk, hkl, slR_len, hid1] <;> rfl))) | ((with_reducible first | apply SC.condB | apply SC.region | apply SO.run | apply DO.run); (focus (simp (disch := omega) only [go_sem, ↓reduceIte, Nat.reduceEqDiff, reduceCtorEq, q4] <;> rfl)); (first | refine pickT ?_ | refine pickF ?_ | fail_if_success with_reducible refine pickA ?_)) | ((with_reducible refine SC.draw Tab.mixed ?_ ?_); (focus (first | rfl | simp (disch := omega) only [go_sem, ↓reduceIte, Nat.reduceEqDiff, Nat.reduceLT, Nat.reduceLeDiff, Nat.reduceAdd, Nat.reduceMul, Nat.reduceSub, reduceCtorEq, Nat.reduceBEq, Int.reduceToNat, Int.reducePow, if_pos, if_neg, q4, gk, hkl, slR_len, hid1]))) | (with_reducible apply SC.ops)))
            refine SC.loop (fun h : Nat => ⟨[(0, .sc (.int .u64 p)), (1, .sl o 0 n 1 none), (2, .sc (.int .i64 cols)), (7, .sl q0 0 pv.length 1 none), (8, .sc (.int .i64 c)), (9, .sc (.int .i64 pv.length)), (84, .sl o 0 n 1 none), (85, .sc (.int .i64 n)), (86, .sc (.int .i64 h))], (q0, ⟨3, wv pv, false⟩) :: (o, ⟨44, slR 1 w ids1, false⟩) :: rowsH 26 ids1 (nR (clearTo p pv.length c h rk M2)), nx, 113⟩) (fun h => h ≤ n) (fun h => n - h) 0 ?_ ?_ ?_
            · rw [clearTo_zero]
              (refine Le.slots ?_ ?_ ?_ <;> (repeat' (first | (exact fun _ _ h => h) | exact Nat.le_refl _ | exact leSl_nil | refine leSl_cons (by simp (disch := omega) only [go_sem, ↓reduceIte, Nat.reduceEqDiff, reduceCtorEq] <;> rfl) ?_ ?_ | exact VLe.junk _ | exact VLe.refl rfl | exact VLe.nil_sl _ _ _ | exact VLe.int (by first | rfl | omega | (dsimp only; omega)) | exact VLe.bool rfl | exact VLe.sl rfl (by first | rfl | omega) | exact VLe.cap rfl (by first | rfl | omega) | exact VLe.im rfl rfl | omega | (refine fun id k h => ?_; simp only [hget] at h ⊢; (repeat' (split at h)) <;> first | (cases h; done) | (simp (disch := omega) only [if_pos, if_neg]; exact h)))))
            · exact Nat.zero_le _
            · intro h hh K3 hK3
              have hM3 := clearTo_mv (k := pv.length) (c := c) (h := h) (by omega) hM2 hrw.1
              have hl3 := hM3.1
              by_cases hhn : h < n
              · have q5 := decide_eq_true (p := (h : Int) < (n : Int)) (by omega)
                have gh := slR_get (z := 1) (m := w) (ids := ids1) (k := h) (by omega)
                by_cases hhk : h = pv.length
                · have q6 : ((h : Int) != (pv.length : Int)) = false := by rw [hhk]; simp
                  (repeat (first | (first | refine DO.nilC (by kernel_rfl) ?_ | refine DO.nil (by kernel_rfl) ?_) | (with_reducible first | apply oz1 | apply oz2 | apply oz3 | apply oz4 | apply oz5 | apply oz6 | apply oz7 | apply oz8 | apply oz9 | apply ozb | apply ozc | apply oze | apply ozf | apply ozg | apply ozh | apply ozi | apply ozj | apply ozk | refine ozd (by decide) ?_) | ((first | apply SO.call | apply DO.call); (iterate 3 (focus (simp (disch := omega) only [go_sem, ↓reduceIte, Nat.reduceEqDiff, Nat.reduceLT, Nat.reduceLeDiff, Nat.reduceAdd, Nat.reduceMul, Nat.reduceSub, reduceCtorEq, Nat.reduceBEq, Int.reduceToNat, Int.reducePow, if_pos, if_neg, q5, q6, gh, slR_len, hid1] <;> rfl))); (first | apply SCall.ofX | apply DCall.ofX); (focus (first | assumption)); (focus (simp (disch := omega) only [go_sem, ↓reduceIte, Nat.reduceEqDiff, Nat.reduceLT, Nat.reduceLeDiff, Nat.reduceAdd, Nat.reduceMul, Nat.reduceSub, reduceCtorEq, Nat.reduceBEq, Int.reduceToNat, Int.reducePow, if_pos, if_neg, q5, q6, gh, slR_len, hid1] <;> rfl))) | ((with_reducible first | apply SC.condB | apply SC.region | apply SO.run | apply DO.run); (focus (simp (disch := omega) only [go_sem, ↓reduceIte, Nat.reduceEqDiff, reduceCtorEq, if_pos, if_neg, q5, q6, gh] <;> rfl)); (first | refine pickT ?_ | refine pickF ?_ | fail_if_success with_reducible refine pickA ?_)) | ((with_reducible refine SC.draw Tab.mixed ?_ ?_); (focus (first | rfl | simp (disch := omega) only [go_sem, ↓reduceIte, Nat.reduceEqDiff, Nat.reduceLT, Nat.reduceLeDiff, Nat.reduceAdd, Nat.reduceMul, Nat.reduceSub, reduceCtorEq, Nat.reduceBEq, Int.reduceToNat, Int.reducePow, if_pos, if_neg, q5, q6, gh, slR_len, hid1]))) | (with_reducible apply SC.ops)))
                  refine hK3 _ (h + 1) ?_ (by omega) (by omega)
                  rw [clearTo_same hhk]
                  (refine Le.slots ?_ ?_ ?_ <;> (repeat' (first | (exact fun _ _ h => h) | exact Nat.le_refl _ | exact leSl_nil | refine leSl_cons (by simp (disch := omega) only [go_sem, ↓reduceIte, Nat.reduceEqDiff, reduceCtorEq] <;> rfl) ?_ ?_ | exact VLe.junk _ | exact VLe.refl rfl | exact VLe.nil_sl _ _ _ | exact VLe.int (by first | rfl | omega | (dsimp only; omega)) | exact VLe.bool rfl | exact VLe.sl rfl (by first | rfl | omega) | exact VLe.cap rfl (by first | rfl | omega) | exact VLe.im rfl rfl | omega | (refine fun id k h => ?_; simp only [hget] at h ⊢; (repeat' (split at h)) <;> first | (cases h; done) | (simp (disch := omega) only [if_pos, if_neg]; exact h)))))
                · have q6 : ((h : Int) != (pv.length : Int)) = true := by rw [bne_iff_ne]; omega
                  have hmemh := getD_mem' (ids := ids1) (k := h) (by omega)
                  have hneh1 : ids1.getD h 0 ≠ o := fun e => hI1.o2 (by rw [← e]; exact hmemh)
                  have hneh2 := hI1.lt _ hmemh
                  have hhk2 : ids1.getD h 0 ≠ ids1.getD pv.length 0 := fun e => hhk (nodup_getD hI1.nod (by omega) (by omega) e)
                  have gRh := rows_get (ty := 26) (rs := nR (clearTo p pv.length c h rk M2)) (k := h) hI1.nod (by omega) (by rw [nR_len]; omega)
                  have gRk := rows_get (ty := 26) (rs := nR (clearTo p pv.length c h rk M2)) (k := pv.length) hI1.nod (by omega) (by rw [nR_len]; omega)
                  rw [nR_getD, clearTo_get (by omega), if_pos (.inr (Nat.le_refl _))] at gRh
                  rw [nR_getD, clearTo_get (by omega), if_pos (.inl rfl), eM2] at gRk
                  have hrh := hM2.get hhn
                  have hset1 := rows_set (ty := 26) (rs := nR (clearTo p pv.length c h rk M2)) (k := h) (r := nv (addRw p (M2.getD h []) rk ((0 + p - (M2.getD h []).getD c 0) % p))) hI1.nod (by omega) (by rw [nR_len]; omega)
                  rw [nR_set, clearTo_set hhk (by omega)] at hset1
                  have hset2 := rows_set (ty := 26) (rs := nR (clearTo p pv.length c h rk M2)) (k := pv.length) (r := nv rk) hI1.nod (by omega) (by rw [nR_len]; omega)
                  have eself : (clearTo p pv.length c h rk M2).set pv.length rk = clearTo p pv.length c h rk M2 := by
                    refine mat_ext (by simp) fun i hi => ?_
                    rw [getD_set (by omega)]
                    by_cases e : i = pv.length
                    · rw [if_pos e, e, clearTo_get (by omega), if_pos (.inl rfl), eM2]
                    · rw [if_neg e]
                  rw [nR_set, eself] at hset2
                  have glh := nv_len (M2.getD h [])
                  have hrhl := hrh.1
                  have gxh := nv_get (r := M2.getD h []) (j := c) (by omega)
                  have xhl := hrh.lt (j := c) (by omega)
                  have c4 := mSub0_s p ((M2.getD h []).getD c 0) (by omega) (by omega) xhl
                  have hzl := Nat.mod_lt (0 + p - (M2.getD h []).getD c 0) (y := p) (by omega)
                  generalize hH1 : rowsH 26 ids1 (nR (clearTo p pv.length c (h + 1) rk M2)) = H1 at *
                  have hkl3 : ∀ id q, hget (rowsH 26 ids1 (nR (clearTo p pv.length c h rk M2))) id = some q → id < nx := klr (fun j hj => by have := hI1.lt j hj; omega)
                  generalize hH : rowsH 26 ids1 (nR (clearTo p pv.length c h rk M2)) = H at *
                  generalize (M2.getD h []).getD c 0 = xh at *
                  generalize M2.getD h [] = rh at *
                  generalize hzz : (0 + p - xh) % p = zz at *
                  have hadd := (addTo_s p w (ids1.getD h 0) (ids1.getD pv.length 0) zz nx rh rk (by omega) (by omega) hrh hrw hzl hhk2 (by omega) (by omega) hw).toQ
                  generalize ids1.getD h 0 = idh at *
                  generalize ids1.getD pv.length 0 = idk at *
                  (repeat (first | (first | refine DO.nilC (by kernel_rfl) ?_ | refine DO.nil (by kernel_rfl) ?_) | (with_reducible first | apply oz1 | apply oz2 | apply oz3 | apply oz4 | apply oz5 | apply oz6 | apply oz7 | apply oz8 | apply oz9 | apply ozb | apply ozc | apply oze | apply ozf | apply ozg | apply ozh | apply ozi | apply ozj | apply ozk | refine ozd (by decide) ?_) | ((first | apply SO.call | apply DO.call); (iterate 3 (focus (simp (disch := omega) only [go_sem, ↓reduceIte, Nat.reduceEqDiff, Nat.reduceLT, Nat.reduceLeDiff, Nat.reduceAdd, Nat.reduceMul, Nat.reduceSub, reduceCtorEq, Nat.reduceBEq, Int.reduceToNat, Int.reducePow, if_pos, if_neg, q5, gh, slR_len, hid1] <;> rfl))); (first | apply SCall.ofX | apply DCall.ofX); (focus (first | assumption)); (focus (simp (disch := omega) only [go_sem, ↓reduceIte, Nat.reduceEqDiff, Nat.reduceLT, Nat.reduceLeDiff, Nat.reduceAdd, Nat.reduceMul, Nat.reduceSub, reduceCtorEq, Nat.reduceBEq, Int.reduceToNat, Int.reducePow, if_pos, if_neg, q5, gh, slR_len, hid1] <;> rfl))) | ((with_reducible first | apply SC.condB | apply SC.region | apply SO.run | apply DO.run); (focus (simp (disch := omega) only [go_sem, ↓reduceIte, Nat.reduceEqDiff, reduceCtorEq, if_pos, if_neg, q5, gh] <;> rfl)); (first | refine pickT ?_ | refine pickF ?_ | fail_if_success with_reducible refine pickA ?_)) | ((with_reducible refine SC.draw Tab.mixed ?_ ?_); (focus (first | rfl | simp (disch := omega) only [go_sem, ↓reduceIte, Nat.reduceEqDiff, Nat.reduceLT, Nat.reduceLeDiff, Nat.reduceAdd, Nat.reduceMul, Nat.reduceSub, reduceCtorEq, Nat.reduceBEq, Int.reduceToNat, Int.reducePow, if_pos, if_neg, q5, gh, slR_len, hid1]))) | (with_reducible apply SC.ops)))
                  refine SC.condB (by simp (disch := omega) only [go_sem, ↓reduceIte, q6] <;> rfl) (pickT ?_)
                  refine SC.drawT 12 (by simp only [List.take_succ_cons, List.take_zero]; rfl) (by simp only [List.drop_succ_cons, List.drop_zero]; rfl) Tab.mixed ?_ (by kernel_rfl) ?_
                  · exact klc (show q0 < nx by omega) (klc (show o < nx by omega) hkl3)
                  (repeat (first | (first | refine DO.nilC (by kernel_rfl) ?_ | refine DO.nil (by kernel_rfl) ?_) | (with_reducible first | apply oz1 | apply oz2 | apply oz3 | apply oz4 | apply oz5 | apply oz6 | apply oz7 | apply oz8 | apply oz9 | apply ozb | apply ozc | apply oze | apply ozf | apply ozg | apply ozh | apply ozi | apply ozj | apply ozk | refine ozd (by decide) ?_) | ((first | apply SO.call | apply DO.call); (iterate 3 (focus (simp (disch := omega) only [go_sem, ↓reduceIte, Nat.reduceEqDiff, if_pos, if_neg, gRh, glh, hrhl] <;> rfl))); (first | apply SCall.ofX | apply DCall.ofX); (focus (first | assumption)); (focus (simp (disch := omega) only [go_sem] <;> rfl))) | ((with_reducible first | apply SC.condB | apply SC.region | apply SO.run | apply DO.run); (focus (simp (disch := omega) only [go_sem, ↓reduceIte, Nat.reduceEqDiff, reduceCtorEq, if_pos, if_neg, gk, gRh, gxh] <;> rfl)); (first | refine pickT ?_ | refine pickF ?_ | fail_if_success with_reducible refine pickA ?_)) | ((with_reducible refine SC.draw Tab.mixed ?_ ?_); (focus (first | rfl | simp (disch := omega) only [go_sem, ↓reduceIte, Nat.reduceEqDiff, Nat.reduceLT, Nat.reduceLeDiff, Nat.reduceAdd, Nat.reduceMul, Nat.reduceSub, reduceCtorEq, Nat.reduceBEq, Int.reduceToNat, Int.reducePow, if_pos, if_neg, gk, gRk, gRh, gxh, glh, hrhl, slR_len, hid1, List.getElem?_drop]))) | (with_reducible apply SC.ops)))
                  have hsub : ∀ id q, hget [(idh, (⟨26, nv rh, false⟩ : Blk)), (idk, ⟨26, nv rk, false⟩)] id = some q → hget ((q0, (⟨3, wv pv, false⟩ : Blk)) :: (o, ⟨44, slR 1 w ids1, false⟩) :: H) id = some q := by
                    intro id b hb
                    simp only [hget] at hb ⊢
                    by_cases e1 : id = idh
                    · rw [if_pos e1] at hb
                      rw [if_neg (by omega), if_neg (by omega), e1, gRh]; exact hb
                    · rw [if_neg e1] at hb
                      by_cases e2 : id = idk
                      · rw [if_pos e2] at hb
                        rw [if_neg (by omega), if_neg (by omega), e2, gRk]; exact hb
                      · rw [if_neg e2] at hb; cases hb
                  have hnew : hsets ((q0, (⟨3, wv pv, false⟩ : Blk)) :: (o, ⟨44, slR 1 w ids1, false⟩) :: H) [(idh, ⟨26, nv (addRw p rh rk zz), false⟩), (idk, ⟨26, nv rk, false⟩)] = (q0, ⟨3, wv pv, false⟩) :: (o, ⟨44, slR 1 w ids1, false⟩) :: H1 := by
                    simp only [hsets_cons, hsets_nil, hset_cons]
                    rw [if_neg (by omega), if_neg (by omega), hset2]
                    simp only [hset_cons]
                    rw [if_neg (by omega), if_neg (by omega), hset1]
                  have hupd := hget_upd (new := []) (upd := [(idh, (⟨26, nv (addRw p rh rk zz), false⟩ : Blk)), (idk, ⟨26, nv rk, false⟩)]) hsub (fun i => rfl)
                  rw [hnew] at hupd
                  show SO _ _ _ _ _ _ _
                  refine SO.inlQ (by simp (disch := omega) only [go_sem] <;> rfl) Tab.go58 (by simp (disch := omega) only [go_sem, ↓reduceIte, Nat.reduceEqDiff] <;> rfl) (by simp (disch := omega) only [go_sem] <;> rfl) (SInlQ.of hadd hsub ?_)
                  rintro x' hp' nx' ⟨rfl, rfl, rfl⟩
                  refine ⟨.tu (fun _ h => by cases h), ⟨fun y hy => Only.clo (List.all_eq_true.1 (nv_clo _) y hy), fun y hy => Only.clo (List.all_eq_true.1 (nv_clo _) y hy), trivial⟩, _, hupd, ?_⟩
                  (repeat (first | (first | refine DO.nilC (by kernel_rfl) ?_ | refine DO.nil (by kernel_rfl) ?_) | (with_reducible first | apply oz1 | apply oz2 | apply oz3 | apply oz4 | apply oz5 | apply oz6 | apply oz7 | apply oz8 | apply oz9 | apply ozb | apply ozc | apply oze | apply ozf | apply ozg | apply ozh | apply ozi | apply ozj | apply ozk | refine ozd (by decide) ?_) | ((first | apply SO.call | apply DO.call); (iterate 3 (focus (simp (disch := omega) only [go_sem, ↓reduceIte, Nat.reduceEqDiff, Nat.reduceLT, Nat.reduceLeDiff, Nat.reduceAdd, Nat.reduceMul, Nat.reduceSub, reduceCtorEq, Nat.reduceBEq, Int.reduceToNat, Int.reducePow, if_pos, if_neg] <;> rfl))); (first | apply SCall.ofX | apply DCall.ofX); (focus (first | assumption)); (focus (simp (disch := omega) only [go_sem, ↓reduceIte, Nat.reduceEqDiff, Nat.reduceLT, Nat.reduceLeDiff, Nat.reduceAdd, Nat.reduceMul, Nat.reduceSub, reduceCtorEq, Nat.reduceBEq, Int.reduceToNat, Int.reducePow, if_pos, if_neg] <;> rfl))) | ((with_reducible first | apply SC.condB | apply SC.region | apply SO.run | apply DO.run); (focus (simp (disch := omega) only [go_sem, ↓reduceIte, Nat.reduceEqDiff, reduceCtorEq] <;> rfl)); (first | refine pickT ?_ | refine pickF ?_ | fail_if_success with_reducible refine pickA ?_)) | ((with_reducible refine SC.draw Tab.mixed ?_ ?_); (focus (first | rfl | simp (disch := omega) only [go_sem, ↓reduceIte, Nat.reduceEqDiff, Nat.reduceLT, Nat.reduceLeDiff, Nat.reduceAdd, Nat.reduceMul, Nat.reduceSub, reduceCtorEq, Nat.reduceBEq, Int.reduceToNat, Int.reducePow, if_pos, if_neg]))) | (with_reducible apply SC.ops)))
                  refine hK3 _ (h + 1) ?_ (by omega) (by omega)
                  rw [hH1]
                  (refine Le.slots ?_ ?_ ?_ <;> (repeat' (first | (exact fun _ _ h => h) | exact Nat.le_refl _ | exact leSl_nil | refine leSl_cons (by simp (disch := omega) only [go_sem, ↓reduceIte, Nat.reduceEqDiff, reduceCtorEq] <;> rfl) ?_ ?_ | exact VLe.junk _ | exact VLe.refl rfl | exact VLe.nil_sl _ _ _ | exact VLe.int (by first | rfl | omega | (dsimp only; omega)) | exact VLe.bool rfl | exact VLe.sl rfl (by first | rfl | omega) | exact VLe.cap rfl (by first | rfl | omega) | exact VLe.im rfl rfl | omega | (refine fun id k h => ?_; simp only [hget] at h ⊢; (repeat' (split at h)) <;> first | (cases h; done) | (simp (disch := omega) only [if_pos, if_neg]; exact h)))))
              · have q5 := decide_eq_false (p := (h : Int) < (n : Int)) (by omega)
                have hhn' : h = n := by omega
                rw [hhn'] at hM3 q5 ⊢
                have t1 := wv_len pv
                have t2 := wv_one pv
                have t3 : (wv pv).take pv.length = wv pv := List.take_of_length_le (by rw [t1]; exact Nat.le_refl _)
                have t4 := wv_snoc pv c
                have t5 := rows_del (ty := 26) (rs := nR (clearTo p pv.length c n rk M2)) (i := q0) (ids := ids1) (fun hm => by have := hI1.lt _ hm; omega)
                have t6 : hget ((o, (⟨44, slR 1 w ids1, false⟩ : Blk)) :: rowsH 26 ids1 (nR (clearTo p pv.length c n rk M2))) nx = none := by
                  simp only [hget]
                  rw [if_neg (by omega)]
                  exact rows_none fun hm => by have := hI1.lt _ hm; omega
                generalize hMM : clearTo p pv.length c n rk M2 = M3 at *
                (repeat (first | (first | refine DO.nilC (by kernel_rfl) ?_ | refine DO.nil (by kernel_rfl) ?_) | (with_reducible first | apply oz1 | apply oz2 | apply oz3 | apply oz4 | apply oz5 | apply oz6 | apply oz7 | apply oz8 | apply oz9 | apply ozb | apply ozc | apply oze | apply ozf | apply ozg | apply ozh | apply ozi | apply ozj | apply ozk | refine ozd (by decide) ?_) | ((first | apply SO.call | apply DO.call); (iterate 3 (focus (simp (disch := omega) only [go_sem, ↓reduceIte, Nat.reduceEqDiff, Nat.reduceLT, Nat.reduceLeDiff, Nat.reduceAdd, Nat.reduceMul, Nat.reduceSub, reduceCtorEq, Nat.reduceBEq, Int.reduceToNat, Int.reducePow, if_pos, if_neg, q5, t1, t2, t3, t4, t5] <;> rfl))); (first | apply SCall.ofX | apply DCall.ofX); (focus (first | assumption)); (focus (simp (disch := omega) only [go_sem, ↓reduceIte, Nat.reduceEqDiff, Nat.reduceLT, Nat.reduceLeDiff, Nat.reduceAdd, Nat.reduceMul, Nat.reduceSub, reduceCtorEq, Nat.reduceBEq, Int.reduceToNat, Int.reducePow, if_pos, if_neg, q5, t1, t2, t3, t4, t5] <;> rfl))) | ((with_reducible first | apply SC.condB | apply SC.region | apply SO.run | apply DO.run); (focus (simp (disch := omega) only [go_sem, ↓reduceIte, Nat.reduceEqDiff, Nat.reduceLeDiff, reduceCtorEq, if_pos, if_neg, q5, t1, t3, t4, t5] <;> rfl)); (first | refine pickT ?_ | refine pickF ?_ | fail_if_success with_reducible refine pickA ?_)) | ((with_reducible refine SC.draw Tab.mixed ?_ ?_); (focus (first | rfl | simp (disch := omega) only [go_sem, ↓reduceIte, Nat.reduceEqDiff, Nat.reduceLT, Nat.reduceLeDiff, Nat.reduceAdd, Nat.reduceMul, Nat.reduceSub, reduceCtorEq, Nat.reduceBEq, Int.reduceToNat, Int.reducePow, if_pos, if_neg, q5, t1, t2, t3, t4, t5]))) | (with_reducible apply SC.ops)))
                refine hK _ (c + 1, M3, pv ++ [c], ids1, nx + 1, nx + 2) ?_ ⟨by simp only; omega, hM3, hI1, by simp; omega, by simp only; omega, by simp only; omega, hE⟩ (by simp only; omega)
                simp only [List.length_append, List.length_singleton]
                refine Le.slots ?_ (less_skip (by omega) t6) (Nat.le_refl _)
                repeat' (first | exact leSl_nil | refine leSl_cons (by simp (disch := omega) only [go_sem, ↓reduceIte, Nat.reduceEqDiff, reduceCtorEq] <;> rfl) ?_ ?_ | exact VLe.refl rfl | exact VLe.int (by omega))
    · have hfin : elimL p cols M0 = (M, pv) := by
        rw [← hE]
        by_cases hcl : c < cols
        · rw [show cols - c = (cols - (c + 1)) + 1 by omega, elimGo, if_neg (by omega)]
        · rw [show cols - c = 0 by omega]; rfl
      by_cases hcl : c < cols
      · have q1 := decide_eq_true (p := (c : Int) < (cols : Int)) (by omega)
        have q2 := decide_eq_false (p := (pv.length : Int) < (n : Int)) (by omega)
        (repeat (first | (first | refine DO.nilC (by kernel_rfl) ?_ | refine DO.nil (by kernel_rfl) ?_) | (with_reducible first | apply oz1 | apply oz2 | apply oz3 | apply oz4 | apply oz5 | apply oz6 | apply oz7 | apply oz8 | apply oz9 | apply ozb | apply ozc | apply oze | apply ozf | apply ozg | apply ozh | apply ozi | apply ozj | apply ozk | refine ozd (by decide) ?_) | ((first | apply SO.call | apply DO.call); (iterate 3 (focus (simp (disch := omega) only [go_sem, ↓reduceIte, Nat.reduceEqDiff, Nat.reduceLT, Nat.reduceLeDiff, Nat.reduceAdd, Nat.reduceMul, Nat.reduceSub, reduceCtorEq, Nat.reduceBEq, Int.reduceToNat, Int.reducePow, if_pos, if_neg, q1, q2] <;> rfl))); (first | apply SCall.ofX | apply DCall.ofX); (focus (first | assumption)); (focus (simp (disch := omega) only [go_sem, ↓reduceIte, Nat.reduceEqDiff, Nat.reduceLT, Nat.reduceLeDiff, Nat.reduceAdd, Nat.reduceMul, Nat.reduceSub, reduceCtorEq, Nat.reduceBEq, Int.reduceToNat, Int.reducePow, if_pos, if_neg, q1, q2] <;> rfl))) | ((with_reducible first | apply SC.condB | apply SC.region | apply SO.run | apply DO.run); (focus (simp (disch := omega) only [go_sem, ↓reduceIte, Nat.reduceEqDiff, Nat.reduceLT, reduceCtorEq, q1, q2] <;> rfl)); (first | refine pickT ?_ | refine pickF ?_ | fail_if_success with_reducible refine pickA ?_)) | ((with_reducible refine SC.draw Tab.mixed ?_ ?_); (focus (first | rfl | simp (disch := omega) only [go_sem, ↓reduceIte, Nat.reduceEqDiff, Nat.reduceLT, Nat.reduceLeDiff, Nat.reduceAdd, Nat.reduceMul, Nat.reduceSub, reduceCtorEq, Nat.reduceBEq, Int.reduceToNat, Int.reducePow, if_pos, if_neg, q1, q2]))) | (with_reducible apply SC.ops)))
        refine retIQ_ret (.sl q0 0 pv.length 1 none) ((q0, ⟨3, wv pv, false⟩) :: (o, ⟨44, slR 1 w ids, false⟩) :: rowsH 26 ids (nR M)) nx Try.results50 (by simp (disch := omega) only [go_sem, ↓reduceIte] <;> rfl) ⟨ids, q0, by rw [hM0.1]; exact hI, hq0, hqx, by rw [hfin], by rw [hfin]⟩ ?_
        exact Le.refl _ _
      · have q1 := decide_eq_false (p := (c : Int) < (cols : Int)) (by omega)
        (repeat (first | (first | refine DO.nilC (by kernel_rfl) ?_ | refine DO.nil (by kernel_rfl) ?_) | (with_reducible first | apply oz1 | apply oz2 | apply oz3 | apply oz4 | apply oz5 | apply oz6 | apply oz7 | apply oz8 | apply oz9 | apply ozb | apply ozc | apply oze | apply ozf | apply ozg | apply ozh | apply ozi | apply ozj | apply ozk | refine ozd (by decide) ?_) | ((first | apply SO.call | apply DO.call); (iterate 3 (focus (simp (disch := omega) only [go_sem, ↓reduceIte, Nat.reduceEqDiff, Nat.reduceLT, Nat.reduceLeDiff, Nat.reduceAdd, Nat.reduceMul, Nat.reduceSub, reduceCtorEq, Nat.reduceBEq, Int.reduceToNat, Int.reducePow, if_pos, if_neg, q1] <;> rfl))); (first | apply SCall.ofX | apply DCall.ofX); (focus (first | assumption)); (focus (simp (disch := omega) only [go_sem, ↓reduceIte, Nat.reduceEqDiff, Nat.reduceLT, Nat.reduceLeDiff, Nat.reduceAdd, Nat.reduceMul, Nat.reduceSub, reduceCtorEq, Nat.reduceBEq, Int.reduceToNat, Int.reducePow, if_pos, if_neg, q1] <;> rfl))) | ((with_reducible first | apply SC.condB | apply SC.region | apply SO.run | apply DO.run); (focus (simp (disch := omega) only [go_sem, ↓reduceIte, Nat.reduceEqDiff, Nat.reduceLT, reduceCtorEq, q1] <;> rfl)); (first | refine pickT ?_ | refine pickF ?_ | fail_if_success with_reducible refine pickA ?_)) | ((with_reducible refine SC.draw Tab.mixed ?_ ?_); (focus (first | rfl | simp (disch := omega) only [go_sem, ↓reduceIte, Nat.reduceEqDiff, Nat.reduceLT, Nat.reduceLeDiff, Nat.reduceAdd, Nat.reduceMul, Nat.reduceSub, reduceCtorEq, Nat.reduceBEq, Int.reduceToNat, Int.reducePow, if_pos, if_neg, q1]))) | (with_reducible apply SC.ops)))
        refine retIQ_ret (.sl q0 0 pv.length 1 none) ((q0, ⟨3, wv pv, false⟩) :: (o, ⟨44, slR 1 w ids, false⟩) :: rowsH 26 ids (nR M)) nx Try.results50 (by simp (disch := omega) only [go_sem, ↓reduceIte] <;> rfl) ⟨ids, q0, by rw [hM0.1]; exact hI, hq0, hqx, by rw [hfin], by rw [hfin]⟩ ?_
        exact Le.refl _ _
end Go.Proofs.Ytpbomhmflllemaa

/- Contracts: valid, Rref, Rank. -/
namespace Go.Proofs.Ytpbomhmflllemaa
open Go.RowKit
set_option maxHeartbeats 1000000 in
theorem valid_s {p n w : Nat} {M : List (List Nat)} (hpr : Spec Try.prog 73 [.sc (.int .u64 p)] (.sc (.bool true))) (hM : MV p n w M) (hn : n ≤ 1000000) (hw : w ≤ 1000000) :
    Spec Try.prog 48 [md p w M] (.sc (.bool true)) := by
  have hl := hM.1
  have gl := imR_len w M
  have q0 : decide ((w : Int) < 0) = false := decide_eq_false (by omega)
  unfold md mv
  refine Spec.run Try.func48 rfl Try.ntmps48 (by simp) (by simp (disch := omega) only [go_sem]; rfl) fun B hB => ?_
  (repeat (first | (first | refine DO.nilC (by kernel_rfl) ?_ | refine DO.nil (by kernel_rfl) ?_) | (with_reducible first | apply oz1 | apply oz2 | apply oz3 | apply oz4 | apply oz5 | apply oz6 | apply oz7 | apply oz8 | apply oz9 | apply ozb | apply ozc | apply oze | apply ozf | apply ozg | apply ozh | apply ozi | apply ozj | apply ozk | refine ozd (by decide) ?_) | ((first | apply SO.call | apply DO.call); (iterate 3 (focus (simp (disch := omega) only [go_sem, ↓reduceIte] <;> rfl))); (first | apply SCall.ofX | apply DCall.ofX); (focus (first | assumption)); (focus (simp (disch := omega) only [go_sem] <;> rfl))) | ((with_reducible first | apply SC.condB | apply SC.region | apply SO.run | apply DO.run); (focus (simp (disch := omega) only [go_sem, ↓reduceIte, Nat.reduceEqDiff, reduceCtorEq, q0] <;> rfl)); (first | refine pickT ?_ | refine pickF ?_ | fail_if_success with_reducible refine pickA ?_)) | ((with_reducible refine SC.draw Tab.mixed ?_ ?_); (focus (first | rfl | simp (disch := omega) only [go_sem, ↓reduceIte, Nat.reduceEqDiff, Nat.reduceLT, Nat.reduceLeDiff, Nat.reduceAdd, Nat.reduceMul, Nat.reduceSub, reduceCtorEq, Nat.reduceBEq, Int.reduceToNat, Int.reducePow, if_pos, if_neg, q0]))) | (with_reducible apply SC.ops)))
  refine SC.loop (fun i : Nat => ⟨[(1, .pt 0 0), (15, .im (imR w (nR M)) M.length), (16, .sc (.int .i64 M.length)), (17, .sc (.int .i64 i))], [(0, ⟨29, [.sc (.int .u64 p), .sc (.int .i64 w), .im (imR w (nR M)) M.length], false⟩)], 1, 34⟩) (fun i => i ≤ n) (fun i => n - i) 0 ?_ ?_ ?_
  · (refine Le.of [] hB (by first | exact ⟨Nat.zero_le _, fun _ _ => Nat.zero_le _⟩ | (constructor <;> (try simp) <;> (try omega))) ?_ ?_ <;> (repeat' (first | exact leSl_nil | exact leHp_nil | refine leSl_cons (by simp (disch := omega) only [go_sem, ↓reduceIte, Nat.reduceEqDiff]; rfl) ?_ ?_ | refine leHp_cons (by simp (disch := omega) only [go_sem, ↓reduceIte]; rfl) ?_ ?_ | exact VLe.junk _ | exact VLe.refl rfl | exact VLe.nil_sl _ _ _ | exact VLe.int (by first | rfl | omega | (dsimp only; omega)) | exact VLe.bool rfl | exact VLe.sl rfl (by first | rfl | omega | (dsimp only; omega) | (simp; done)) | exact VLe.cap rfl (by first | rfl | omega | (dsimp only; omega) | (simp; done)) | exact VLe.im rfl rfl | exact HLe.new rfl | exact HLe.same rfl (LLe.refl rfl) | refine HLe.same rfl ?_ | exact LLe.nil _ | exact LLe.refl rfl | refine LLe.cons ?_ ?_)))
  · exact Nat.zero_le _
  · intro i hi K hK
    by_cases hc : i < n
    · have q1 := decide_eq_true (p := (i : Int) < (M.length : Int)) (by omega)
      have g1 := imR_get (w := w) (M := M) (i := i) (by omega)
      have hr := hM.get hc
      have g3 := nv_len (M.getD i [])
      have c1 := below_s hr hw
      generalize M.getD i [] = r at *
      (repeat (first | (first | refine DO.nilC (by kernel_rfl) ?_ | refine DO.nil (by kernel_rfl) ?_) | (with_reducible first | apply oz1 | apply oz2 | apply oz3 | apply oz4 | apply oz5 | apply oz6 | apply oz7 | apply oz8 | apply oz9 | apply ozb | apply ozc | apply oze | apply ozf | apply ozg | apply ozh | apply ozi | apply ozj | apply ozk | refine ozd (by decide) ?_) | ((first | apply SO.call | apply DO.call); (iterate 3 (focus (simp (disch := omega) only [go_sem, ↓reduceIte, Nat.reduceEqDiff] <;> rfl))); (first | apply SCall.ofX | apply DCall.ofX); (focus (first | assumption)); (focus (simp (disch := omega) only [go_sem] <;> rfl))) | ((with_reducible first | apply SC.condB | apply SC.region | apply SO.run | apply DO.run); (focus (simp (disch := omega) only [go_sem, ↓reduceIte, Nat.reduceEqDiff, Nat.reduceLT, reduceCtorEq, if_pos, q1, gl, g1, bne_self_eq_false, List.getElem?_drop] <;> rfl)); (first | refine pickT ?_ | refine pickF ?_ | fail_if_success with_reducible refine pickA ?_)) | ((with_reducible refine SC.draw Tab.mixed ?_ ?_); (focus (first | rfl | simp (disch := omega) only [go_sem, ↓reduceIte, Nat.reduceEqDiff, Nat.reduceLT, Nat.reduceLeDiff, Nat.reduceAdd, Nat.reduceMul, Nat.reduceSub, reduceCtorEq, Nat.reduceBEq, Int.reduceToNat, Int.reducePow, if_pos, if_neg, q1, gl, g1, g3, bne_self_eq_false, List.getElem?_drop]))) | (with_reducible apply SC.ops)))
      refine hK _ (i + 1) ?_ (by omega) (by omega)
      (refine Le.of [] hB (by first | exact ⟨Nat.zero_le _, fun _ _ => Nat.zero_le _⟩ | (constructor <;> (try simp) <;> (try omega))) ?_ ?_ <;> (repeat' (first | exact leSl_nil | exact leHp_nil | refine leSl_cons (by simp (disch := omega) only [go_sem, ↓reduceIte, Nat.reduceEqDiff]; rfl) ?_ ?_ | refine leHp_cons (by simp (disch := omega) only [go_sem, ↓reduceIte]; rfl) ?_ ?_ | exact VLe.junk _ | exact VLe.refl rfl | exact VLe.nil_sl _ _ _ | exact VLe.int (by first | rfl | omega | (dsimp only; omega)) | exact VLe.bool rfl | exact VLe.sl rfl (by first | rfl | omega | (dsimp only; omega) | (simp; done)) | exact VLe.cap rfl (by first | rfl | omega | (dsimp only; omega) | (simp; done)) | exact VLe.im rfl rfl | exact HLe.new rfl | exact HLe.same rfl (LLe.refl rfl) | refine HLe.same rfl ?_ | exact LLe.nil _ | exact LLe.refl rfl | refine LLe.cons ?_ ?_)))
    · have q1 := decide_eq_false (p := (i : Int) < (M.length : Int)) (by omega)
      (repeat (first | (first | refine DO.nilC (by kernel_rfl) ?_ | refine DO.nil (by kernel_rfl) ?_) | (with_reducible first | apply oz1 | apply oz2 | apply oz3 | apply oz4 | apply oz5 | apply oz6 | apply oz7 | apply oz8 | apply oz9 | apply ozb | apply ozc | apply oze | apply ozf | apply ozg | apply ozh | apply ozi | apply ozj | apply ozk | refine ozd (by decide) ?_) | ((first | apply SO.call | apply DO.call); (iterate 3 (focus (simp (disch := omega) only [go_sem, ↓reduceIte, Nat.reduceEqDiff, Nat.reduceLT, Nat.reduceLeDiff, Nat.reduceAdd, Nat.reduceMul, Nat.reduceSub, reduceCtorEq, Nat.reduceBEq, Int.reduceToNat, Int.reducePow, if_pos, if_neg, q1] <;> rfl))); (first | apply SCall.ofX | apply DCall.ofX); (focus (first | assumption)); (focus (simp (disch := omega) only [go_sem, ↓reduceIte, Nat.reduceEqDiff, Nat.reduceLT, Nat.reduceLeDiff, Nat.reduceAdd, Nat.reduceMul, Nat.reduceSub, reduceCtorEq, Nat.reduceBEq, Int.reduceToNat, Int.reducePow, if_pos, if_neg, q1] <;> rfl))) | ((with_reducible first | apply SC.condB | apply SC.region | apply SO.run | apply DO.run); (focus (simp (disch := omega) only [go_sem, ↓reduceIte, Nat.reduceEqDiff, q1] <;> rfl)); (first | refine pickT ?_ | refine pickF ?_ | fail_if_success with_reducible refine pickA ?_)) | ((with_reducible refine SC.draw Tab.mixed ?_ ?_); (focus (first | rfl | simp (disch := omega) only [go_sem, ↓reduceIte, Nat.reduceEqDiff, Nat.reduceLT, Nat.reduceLeDiff, Nat.reduceAdd, Nat.reduceMul, Nat.reduceSub, reduceCtorEq, Nat.reduceBEq, Int.reduceToNat, Int.reducePow, if_pos, if_neg, q1]))) | (with_reducible apply SC.ops)))
      exact retQ_ret Try.results48 (by simp (disch := omega) only [go_sem, ↓reduceIte] <;> rfl) (by simp (disch := omega) only [go_sem] <;> rfl) rfl
theorem rowsQ_new {w nx : Nat} {M : List (List Nat)} {x : V} {hp' : List (Nat × Blk)} {nx' : Nat} (h : RowsQ w M nx x hp' nx') : Only (fun i => nx ≤ i) x ∧ OnlyH (fun i => nx ≤ i) hp' ∧ ∀ id k, hget hp' id = some k → nx ≤ id := by
  obtain ⟨o, ids, hR, rfl, rfl⟩ := h
  refine ⟨.sl hR.o1.1, ⟨fun y hy => ?_, OnlyH.rows (nR_clo M)⟩, fun id k hk => ?_⟩
  · obtain ⟨i, hi, rfl⟩ := List.mem_map.1 hy
    exact .sl (hR.lt i hi).1
  · simp only [hget] at hk
    split at hk
    · rename_i e; rw [e]; exact hR.o1.1
    · obtain ⟨k1, k2, _, k3, _⟩ := rows_inv hk
      rw [← k3]; exact (hR.lt _ (getD_mem' k2)).1
theorem echQ_new {p w o cols nx m : Nat} {ids : List Nat} {M : List (List Nat)} {x : V} {hp' : List (Nat × Blk)} {nx' : Nat} (h : EchQ p w o ids cols M nx x hp' nx') (ho : m ≤ o) (hi : ∀ i ∈ ids, m ≤ i) (hn : m ≤ nx) : Only (fun i => m ≤ i) x ∧ OnlyH (fun i => m ≤ i) hp' ∧ ∀ id k, hget hp' id = some k → m ≤ id := by
  obtain ⟨ids', q, hI, h1, h2, rfl, rfl⟩ := h
  refine ⟨.sl (by omega), ⟨fun y hy => Only.clo (List.all_eq_true.1 (wv_clo _) y hy), fun y hy => ?_, OnlyH.rows (nR_clo _)⟩, fun id k hk => ?_⟩
  · obtain ⟨i, hi', rfl⟩ := List.mem_map.1 hy
    exact .sl (hi _ (hI.sub i hi'))
  · simp only [hget] at hk
    split at hk
    · omega
    · split at hk
      · omega
      · obtain ⟨k1, k2, _, k3, _⟩ := rows_inv hk
        rw [← k3]; exact hi _ (hI.sub _ (getD_mem' k2))
set_option maxHeartbeats 4000000 in
set_option maxRecDepth 8000 in
theorem rref_s {p n w : Nat} {M : List (List Nat)} (hpr : Spec Try.prog 73 [.sc (.int .u64 p)] (.sc (.bool true))) (hp : Pr p) (hp2 : p ≤ 2147483647) (hM : MV p n w M) (hn : n ≤ 1000000) (hw : w ≤ 1000000) :
    Spec Try.prog 14 [md p w M] (.tu [md p w (rrefL p w M).1, .im (wv (rrefL p w M).2) (rrefL p w M).2.length]) := by
  have hp1 := hp.1
  have hl := hM.1
  have cv := valid_s hpr hM hn hw
  have cc := fun nx => copied_s hM nx hn hw
  haveI : NeZero p := ⟨by omega⟩
  obtain ⟨hE1, hE2⟩ := elimL_end hp (Nat.le_refl w) hM
  have hkn := hE2.kn
  unfold md mv at cv ⊢
  unfold mv at cc
  refine Spec.run Try.func14 rfl Try.ntmps14 (by simp) (by simp (disch := omega) only [go_sem]; rfl) fun B hB => ?_
  (repeat (first | (first | refine DO.nilC (by kernel_rfl) ?_ | refine DO.nil (by kernel_rfl) ?_) | (with_reducible first | apply oz1 | apply oz2 | apply oz3 | apply oz4 | apply oz5 | apply oz6 | apply oz7 | apply oz8 | apply oz9 | apply ozb | apply ozc | apply oze | apply ozf | apply ozg | apply ozh | apply ozi | apply ozj | apply ozk | refine ozd (by decide) ?_) | ((first | apply SO.call | apply DO.call); (iterate 3 (focus (simp (disch := omega) only [go_sem, ↓reduceIte] <;> rfl))); (first | apply SCall.ofX | apply DCall.ofX); (focus (first | assumption)); (focus (simp (disch := omega) only [go_sem] <;> rfl))) | ((with_reducible first | apply SC.condB | apply SC.region | apply SO.run | apply DO.run); (focus (simp (disch := omega) only [go_sem, ↓reduceIte, Nat.reduceEqDiff, Nat.reduceLeDiff, Nat.reduceAdd, reduceCtorEq] <;> rfl)); (first | refine pickT ?_ | refine pickF ?_ | fail_if_success with_reducible refine pickA ?_)) | ((with_reducible refine SC.draw Tab.mixed ?_ ?_); (focus (first | rfl | simp (disch := omega) only [go_sem, ↓reduceIte, Nat.reduceEqDiff, Nat.reduceLT, Nat.reduceLeDiff, Nat.reduceAdd, Nat.reduceMul, Nat.reduceSub, reduceCtorEq, Nat.reduceBEq, Int.reduceToNat, Int.reducePow, if_pos, if_neg]))) | (with_reducible apply SC.ops)))
  refine SO.inlQ (by simp (disch := omega) only [go_sem] <;> rfl) Tab.go49 (by simp (disch := omega) only [go_sem, ↓reduceIte] <;> rfl) (by simp (disch := omega) only [go_sem] <;> rfl) (SInlQ.newR (cc 2) ?_ ?_ ?_)
  · exact klc (by omega) (klc (by omega) kln)
  · exact fun x hp' nx' h => rowsQ_new h
  rintro x hp' nx' ⟨o, ids, hR, rfl, rfl⟩
  have hI : Ids o ids ids n nx' := ⟨by rw [hR.len, hl], hR.nod, fun i h => h, fun i h => (hR.lt i h).2, hR.o1.2, hR.o2⟩
  have ho := hR.o1
  have ce := echelon_s hp hp2 hM w o nx' ids hI (Nat.le_refl w) hn hw
  rw [← hl] at ce
  (repeat (first | (first | refine DO.nilC (by kernel_rfl) ?_ | refine DO.nil (by kernel_rfl) ?_) | (with_reducible first | apply oz1 | apply oz2 | apply oz3 | apply oz4 | apply oz5 | apply oz6 | apply oz7 | apply oz8 | apply oz9 | apply ozb | apply ozc | apply oze | apply ozf | apply ozg | apply ozh | apply ozi | apply ozj | apply ozk | refine ozd (by decide) ?_) | ((first | apply SO.call | apply DO.call); (iterate 3 (focus (simp (disch := omega) only [go_sem, ↓reduceIte, Nat.reduceEqDiff, if_neg] <;> rfl))); (first | apply SCall.ofX | apply DCall.ofX); (focus (first | assumption)); (focus (simp (disch := omega) only [go_sem, ↓reduceIte, Nat.reduceEqDiff, Nat.reduceLT, Nat.reduceLeDiff, Nat.reduceAdd, Nat.reduceMul, Nat.reduceSub, reduceCtorEq, Nat.reduceBEq, Int.reduceToNat, Int.reducePow, if_pos, if_neg] <;> rfl))) | ((with_reducible first | apply SC.condB | apply SC.region | apply SO.run | apply DO.run); (focus (simp (disch := omega) only [go_sem, ↓reduceIte, Nat.reduceEqDiff, reduceCtorEq] <;> rfl)); (first | refine pickT ?_ | refine pickF ?_ | fail_if_success with_reducible refine pickA ?_)) | ((with_reducible refine SC.draw Tab.mixed ?_ ?_); (focus (first | rfl | simp (disch := omega) only [go_sem, ↓reduceIte, Nat.reduceEqDiff, Nat.reduceLT, Nat.reduceLeDiff, Nat.reduceAdd, Nat.reduceMul, Nat.reduceSub, reduceCtorEq, Nat.reduceBEq, Int.reduceToNat, Int.reducePow, if_pos, if_neg]))) | (with_reducible apply SC.ops)))
  refine SO.inlQ (by simp (disch := omega) only [go_sem] <;> rfl) Tab.go50 (by simp (disch := omega) only [go_sem, ↓reduceIte, Nat.reduceEqDiff] <;> rfl) (by simp (disch := omega) only [go_sem] <;> rfl) (SInlQ.frame (pre := [(1, _), (0, _)]) (m := 2) ce ?_ ?_ ?_ ?_)
  · exact klc (by omega) (klc (by omega) kln)
  · exact (rowsQ_new ⟨o, ids, hR, rfl, rfl⟩).2.2
  · exact fun x hp' nx2 h => echQ_new h ho.1 (fun i hi => (hR.lt i hi).1) (by omega)
  rintro x hp' nx2 ⟨ids', q, hI', hq1, hq2, rfl, rfl⟩
  have hEl := hE1.1
  have hil := hI'.len
  rw [hl] at hil
  have hids : ∀ i ∈ ids', 2 ≤ i ∧ i ≠ q ∧ i ≠ o := fun i hi => by
    have := hR.lt i (hI'.sub i hi)
    exact ⟨this.1, by omega, fun e => hI'.o2 (e ▸ hi)⟩
  unfold rrefL
  simp only
  generalize (elimL p w M).1 = W at *
  generalize (elimL p w M).2 = pv at *
  have t1 := wv_clo pv
  have t2 : (wv pv).take pv.length = wv pv := List.take_of_length_le (by rw [wv_len]; exact Nat.le_refl _)
  have t3 := wv_len pv
  have g1 := slR_len 1 w ids'
  rw [hil] at g1
  have hWl : (W.take pv.length).length = pv.length := by rw [List.length_take]; omega
  have hkl := klB_rows (ty := 26) (rs := nR W) (n := nx2) (ids := ids') (fun j hj => by have := hI'.lt j hj; omega)
  have hsl : ∀ cs xs off, (setAll cs off xs).length = cs.length := fun cs xs off => setAll_length xs cs off
  by_cases h0 : pv.length = 0
  · have hpv : pv = [] := List.eq_nil_of_length_eq_zero h0
    subst hpv
    (repeat (first | (first | refine DO.nilC (by kernel_rfl) ?_ | refine DO.nil (by kernel_rfl) ?_) | (with_reducible first | apply oz1 | apply oz2 | apply oz3 | apply oz4 | apply oz5 | apply oz6 | apply oz7 | apply oz8 | apply oz9 | apply ozb | apply ozc | apply oze | apply ozf | apply ozg | apply ozh | apply ozi | apply ozj | apply ozk | refine ozd (by decide) ?_) | ((first | apply SO.call | apply DO.call); (iterate 3 (focus (simp (disch := omega) only [go_sem, ↓reduceIte, Nat.reduceEqDiff, Nat.reduceLT, Nat.reduceLeDiff, Nat.reduceAdd, Nat.reduceMul, Nat.reduceSub, reduceCtorEq, Nat.reduceBEq, Int.reduceToNat, Int.reducePow, if_pos, if_neg, g1, t1, t2, t3, hl, hkl, hsl, List.length_replicate] <;> rfl))); (first | apply SCall.ofX | apply DCall.ofX); (focus (first | assumption)); (focus (simp (disch := omega) only [go_sem, ↓reduceIte, Nat.reduceEqDiff, Nat.reduceLT, Nat.reduceLeDiff, Nat.reduceAdd, Nat.reduceMul, Nat.reduceSub, reduceCtorEq, Nat.reduceBEq, Int.reduceToNat, Int.reducePow, if_pos, if_neg, g1, t1, t2, t3, hl, hkl, hsl, List.length_replicate] <;> rfl))) | ((with_reducible first | apply SC.condB | apply SC.region | apply SO.run | apply DO.run); (focus (simp (disch := omega) only [go_sem, ↓reduceIte, Nat.reduceEqDiff, Nat.reduceLT, Nat.reduceLeDiff, Nat.reduceAdd, reduceCtorEq, if_pos, if_neg, g1, hl] <;> rfl)); (first | refine pickT ?_ | refine pickF ?_ | fail_if_success with_reducible refine pickA ?_)) | ((with_reducible refine SC.draw Tab.mixed ?_ ?_); (focus (first | rfl | simp (disch := omega) only [go_sem, if_pos, hkl]))) | (with_reducible apply SC.ops)))
    refine retQ_ret Try.results14 (by simp (disch := omega) only [go_sem, ↓reduceIte, Nat.reduceEqDiff, Nat.reduceLeDiff, Nat.reduceAdd] <;> rfl) (by simp (disch := omega) only [go_sem, ↓reduceIte, Nat.reduceLeDiff, if_pos, if_neg, t3, hsl, g1] <;> rfl) rfl
  have hfr : ∀ C : List V, ∀ k, k < (ids'.take pv.length).length → hget ((1, (⟨29, [.sc (.int .u64 p), .sc (.int .i64 w), .sl o 0 pv.length 1 (some pv.length)], false⟩ : Blk)) :: (0, ⟨29, [.sc (.int .u64 p), .sc (.int .i64 w), .im (imR w (nR M)) n], false⟩) :: (q, ⟨3, wv pv, false⟩) :: (o, ⟨44, C, false⟩) :: rowsH 26 ids' (nR W)) ((ids'.take pv.length).getD k 0) = some ⟨26, (nR (W.take pv.length)).getD k [], false⟩ := by
    intro C k hk
    have hk1 : k < pv.length := by simp at hk; omega
    have hk2 : k < ids'.length := by simp at hk; omega
    have e1 : (ids'.take pv.length).getD k 0 = ids'.getD k 0 := by
      rw [List.getD_eq_getElem?_getD, List.getElem?_take, if_pos hk1, List.getD_eq_getElem?_getD]
    have e2 : (W.take pv.length).getD k [] = W.getD k [] := by
      rw [List.getD_eq_getElem?_getD, List.getElem?_take, if_pos hk1, List.getD_eq_getElem?_getD]
    have := hids _ (getD_mem' hk2)
    rw [e1, nR_getD, e2]
    simp only [hget]
    rw [if_neg (by omega), if_neg (by omega), if_neg this.2.1, if_neg this.2.2, rows_get hI'.nod hk2 (by rw [nR_len]; omega), nR_getD]
  have hal := slR_some (z := 1) (m := w) (ids := ids'.take pv.length) (by rw [List.length_take]; omega)
  have hrw : ∀ r ∈ nR (W.take pv.length), r.length = w * 1 ∧ r.all clo = true := nR_rows (p := p) (n := pv.length) ⟨hWl, fun r hr => hE1.2 r (List.mem_of_mem_take hr)⟩
  have hfz := fun C : List V => frz_rowsA (n := 4) (z := 1) (m := w) (ty := 26) (ids := ids'.take pv.length) (rs := nR (W.take pv.length)) (by rw [List.length_take]; omega) (by rw [nR_len, hWl, List.length_take]; omega) (hfr C) hrw
  have hmd : md p w (W.take pv.length) = .ag [.sc (.int .u64 p), .sc (.int .i64 w), .im (imR w (nR (W.take pv.length))) pv.length] := by unfold md mv; rw [hWl]
  unfold md mv at hmd
  rw [hmd]
  by_cases hrn : pv.length < n
  · have hct : ∀ xs : List V, xs.length = n - pv.length → (setAll (slR 1 w ids') pv.length xs).take pv.length = slR 1 w (ids'.take pv.length) := by
      intro xs hx
      rw [setAll_all _ _ _ (by omega), List.append_assoc, List.take_append_of_le_length (by simp; omega), List.take_take, Nat.min_self]
      unfold slR
      rw [List.map_take]
    have hct' := hct (List.replicate (n - pv.length) (.sc ([Value.slice none 0 0].headD undef))) (by simp)
    (repeat (first | (first | refine DO.nilC (by kernel_rfl) ?_ | refine DO.nil (by kernel_rfl) ?_) | (with_reducible first | apply oz1 | apply oz2 | apply oz3 | apply oz4 | apply oz5 | apply oz6 | apply oz7 | apply oz8 | apply oz9 | apply ozb | apply ozc | apply oze | apply ozf | apply ozg | apply ozh | apply ozi | apply ozj | apply ozk | refine ozd (by decide) ?_) | ((first | apply SO.call | apply DO.call); (iterate 3 (focus (simp (disch := omega) only [go_sem, ↓reduceIte, Nat.reduceEqDiff, Nat.reduceLT, Nat.reduceLeDiff, Nat.reduceAdd, Nat.reduceMul, Nat.reduceSub, reduceCtorEq, Nat.reduceBEq, Int.reduceToNat, Int.reducePow, if_pos, if_neg, g1, t1, t2, t3, hl, hkl, hsl, List.length_replicate] <;> rfl))); (first | apply SCall.ofX | apply DCall.ofX); (focus (first | assumption)); (focus (simp (disch := omega) only [go_sem, ↓reduceIte, Nat.reduceEqDiff, Nat.reduceLT, Nat.reduceLeDiff, Nat.reduceAdd, Nat.reduceMul, Nat.reduceSub, reduceCtorEq, Nat.reduceBEq, Int.reduceToNat, Int.reducePow, if_pos, if_neg, g1, t1, t2, t3, hl, hkl, hsl, List.length_replicate] <;> rfl))) | ((with_reducible first | apply SC.condB | apply SC.region | apply SO.run | apply DO.run); (focus (simp (disch := omega) only [go_sem, ↓reduceIte, Nat.reduceEqDiff, Nat.reduceLT, Nat.reduceLeDiff, Nat.reduceAdd, reduceCtorEq, if_pos, if_neg, g1, hl] <;> rfl)); (first | refine pickT ?_ | refine pickF ?_ | fail_if_success with_reducible refine pickA ?_)) | ((with_reducible refine SC.draw Tab.mixed ?_ ?_); (focus (first | rfl | simp (disch := omega) only [go_sem, if_pos, hkl]))) | (with_reducible apply SC.ops)))
    exact retQ_ret Try.results14 (by simp (disch := omega) only [go_sem, ↓reduceIte, Nat.reduceEqDiff, Nat.reduceLeDiff, Nat.reduceAdd] <;> rfl) (by simp (disch := omega) only [go_sem, ↓reduceIte, if_pos, if_neg, hfz, hal, hct', t1, t2, t3, hsl, g1] <;> rfl) rfl
  · have hrn' : n = pv.length := by omega
    subst hrn'
    have hct' : (slR 1 w ids').take pv.length = slR 1 w (ids'.take pv.length) := by
      unfold slR
      rw [List.map_take]
    (repeat (first | (first | refine DO.nilC (by kernel_rfl) ?_ | refine DO.nil (by kernel_rfl) ?_) | (with_reducible first | apply oz1 | apply oz2 | apply oz3 | apply oz4 | apply oz5 | apply oz6 | apply oz7 | apply oz8 | apply oz9 | apply ozb | apply ozc | apply oze | apply ozf | apply ozg | apply ozh | apply ozi | apply ozj | apply ozk | refine ozd (by decide) ?_) | ((first | apply SO.call | apply DO.call); (iterate 3 (focus (simp (disch := omega) only [go_sem, ↓reduceIte, Nat.reduceEqDiff, Nat.reduceLT, Nat.reduceLeDiff, Nat.reduceAdd, Nat.reduceMul, Nat.reduceSub, reduceCtorEq, Nat.reduceBEq, Int.reduceToNat, Int.reducePow, if_pos, if_neg, g1, t1, t2, t3, hl, hkl, hsl, List.length_replicate, Nat.sub_self] <;> rfl))); (first | apply SCall.ofX | apply DCall.ofX); (focus (first | assumption)); (focus (simp (disch := omega) only [go_sem, ↓reduceIte, Nat.reduceEqDiff, Nat.reduceLT, Nat.reduceLeDiff, Nat.reduceAdd, Nat.reduceMul, Nat.reduceSub, reduceCtorEq, Nat.reduceBEq, Int.reduceToNat, Int.reducePow, if_pos, if_neg, g1, t1, t2, t3, hl, hkl, hsl, List.length_replicate, Nat.sub_self] <;> rfl))) | ((with_reducible first | apply SC.condB | apply SC.region | apply SO.run | apply DO.run); (focus (simp (disch := omega) only [go_sem, ↓reduceIte, Nat.reduceEqDiff, Nat.reduceLT, Nat.reduceLeDiff, Nat.reduceAdd, reduceCtorEq, if_pos, if_neg, hl, Nat.sub_self] <;> rfl)); (first | refine pickT ?_ | refine pickF ?_ | fail_if_success with_reducible refine pickA ?_)) | ((with_reducible refine SC.draw Tab.mixed ?_ ?_); (focus (first | rfl | simp (disch := omega) only [go_sem, if_pos, hkl]))) | (with_reducible apply SC.ops)))
    exact retQ_ret Try.results14 (by simp (disch := omega) only [go_sem, ↓reduceIte, Nat.reduceEqDiff, Nat.reduceLeDiff, Nat.reduceAdd] <;> rfl) (by simp (disch := omega) only [go_sem, ↓reduceIte, if_pos, if_neg, hfz, hal, hct', t1, t2, t3, g1] <;> rfl) rfl
theorem rank_s {p n w : Nat} {M : List (List Nat)} (hpr : Spec Try.prog 73 [.sc (.int .u64 p)] (.sc (.bool true))) (hp : Pr p) (hp2 : p ≤ 2147483647) (hM : MV p n w M) (hn : n ≤ 1000000) (hw : w ≤ 1000000) :
    Spec Try.prog 22 [md p w M] (.sc (.int .i64 (rrefL p w M).2.length)) := by
  have c1 := rref_s hpr hp hp2 hM hn hw
  generalize rrefL p w M = R at *
  unfold md mv at *
  refine Spec.run Try.func22 rfl Try.ntmps22 (by simp) (by simp (disch := omega) only [go_sem]; rfl) fun B hB => ?_
  (repeat (first | (first | refine DO.nilC (by kernel_rfl) ?_ | refine DO.nil (by kernel_rfl) ?_) | (with_reducible first | apply oz1 | apply oz2 | apply oz3 | apply oz4 | apply oz5 | apply oz6 | apply oz7 | apply oz8 | apply oz9 | apply ozb | apply ozc | apply oze | apply ozf | apply ozg | apply ozh | apply ozi | apply ozj | apply ozk | refine ozd (by decide) ?_) | ((first | apply SO.call | apply DO.call); (iterate 3 (focus (simp (disch := omega) only [go_sem, ↓reduceIte] <;> rfl))); (first | apply SCall.ofX | apply DCall.ofX); (focus (first | assumption)); (focus (simp (disch := omega) only [go_sem] <;> rfl))) | ((with_reducible first | apply SC.condB | apply SC.region | apply SO.run | apply DO.run); (focus (simp (disch := omega) only [go_sem, ↓reduceIte, Nat.reduceEqDiff, Nat.reduceLT, Nat.reduceLeDiff, Nat.reduceAdd] <;> rfl)); (first | refine pickT ?_ | refine pickF ?_ | fail_if_success with_reducible refine pickA ?_)) | ((with_reducible refine SC.draw Tab.mixed ?_ ?_); (focus (first | rfl | simp (disch := omega) only [go_sem, ↓reduceIte, Nat.reduceEqDiff, Nat.reduceLT, Nat.reduceLeDiff, Nat.reduceAdd, Nat.reduceMul, Nat.reduceSub, reduceCtorEq, Nat.reduceBEq, Int.reduceToNat, Int.reducePow, if_pos, if_neg]))) | (with_reducible apply SC.ops)))
  exact retQ_ret Try.results22 (by simp (disch := omega) only [go_sem, ↓reduceIte] <;> rfl) (by simp (disch := omega) only [go_sem] <;> rfl) rfl
end Go.Proofs.Ytpbomhmflllemaa

/- Contract: Left. -/
namespace Go.Proofs.Ytpbomhmflllemaa
open Go.RowKit
theorem fz_less {hp hp' : List (Nat × Blk)} {ids : List Nat} (h : ∀ id k, hget hp' id = some k → hget hp id = some k ∧ id ∉ ids) : ∀ id k, hget hp' id = some k → hget (fzHp hp ids) id = some k := by
  intro id k hk
  obtain ⟨h1, h2⟩ := h id k hk
  rw [hget_fz, h1]
  have : ids.contains id = false := by
    cases hc : ids.contains id with
    | false => rfl
    | true => exact absurd (by simpa using hc) h2
  rw [Option.map_some, this, if_neg (by simp)]
theorem imR_drop (w : Nat) (M : List (List Nat)) (r n : Nat) (h : n = M.length - r) : ((imR w (nR M)).drop r).take n = imR w (nR (M.drop r)) := by
  rw [List.take_of_length_le (by rw [List.length_drop, imR_len]; omega)]
  simp [imR, nR, List.map_drop]
theorem imR_snoc (w : Nat) (M : List (List Nat)) (r : List Nat) : imR w (nR M) ++ [V.im (nv r) w] = imR w (nR (M ++ [r])) := by simp [imR, nR]
set_option maxHeartbeats 4000000 in
set_option maxRecDepth 8000 in
theorem left_s {p n w : Nat} {M : List (List Nat)} (hpr : Spec Try.prog 73 [.sc (.int .u64 p)] (.sc (.bool true))) (hp : Pr p) (hp2 : p ≤ 2147483647) (hM : MV p n w M) (hn : n ≤ 500000) (hw : w ≤ 500000) :
    Spec Try.prog 18 [md p w M] (md p n (leftL p w M)) := by
  have hp1 := hp.1
  have hl := hM.1
  subst hl
  have cv := valid_s hpr hM (by omega) (by omega)
  have cc := fun nx => widened_s hM nx (by omega) (by omega)
  haveI : NeZero p := ⟨by omega⟩
  have hWM := widenL_mv (by omega) hM
  obtain ⟨hE1, hE2⟩ := elimL_end hp (Nat.le_add_right w M.length) hWM
  have hkn := hE2.kn
  obtain ⟨hK1, _⟩ := kernelL_mv hp hM
  have cr := rref_s hpr hp hp2 hK1 (by omega) (by omega)
  have hwl : (widenL M M.length).length = M.length := hWM.1
  have hleft : (rrefL p M.length (kernelL p w M)).1 = leftL p w M := rfl
  rw [hleft] at cr
  generalize leftL p w M = L at *
  generalize (rrefL p M.length (kernelL p w M)).2 = pvk at *
  unfold md mv at cv cr cc ⊢
  refine Spec.run Try.func18 rfl Try.ntmps18 (by simp) (by simp (disch := omega) only [go_sem]; rfl) fun B hB => ?_
  (repeat (first | (first | refine DO.nilC (by kernel_rfl) ?_ | refine DO.nil (by kernel_rfl) ?_) | (with_reducible first | apply oz1 | apply oz2 | apply oz3 | apply oz4 | apply oz5 | apply oz6 | apply oz7 | apply oz8 | apply oz9 | apply ozb | apply ozc | apply oze | apply ozf | apply ozg | apply ozh | apply ozi | apply ozj | apply ozk | refine ozd (by decide) ?_) | ((first | apply SO.call | apply DO.call); (iterate 3 (focus (simp (disch := omega) only [go_sem, ↓reduceIte] <;> rfl))); (first | apply SCall.ofX | apply DCall.ofX); (focus (first | assumption)); (focus (simp (disch := omega) only [go_sem] <;> rfl))) | ((with_reducible first | apply SC.condB | apply SC.region | apply SO.run | apply DO.run); (focus (simp (disch := omega) only [go_sem, ↓reduceIte, Nat.reduceEqDiff, Nat.reduceLeDiff, Nat.reduceAdd, reduceCtorEq] <;> rfl)); (first | refine pickT ?_ | refine pickF ?_ | fail_if_success with_reducible refine pickA ?_)) | ((with_reducible refine SC.draw Tab.mixed ?_ ?_); (focus (first | rfl | simp (disch := omega) only [go_sem, ↓reduceIte, Nat.reduceEqDiff, Nat.reduceLT, Nat.reduceLeDiff, Nat.reduceAdd, Nat.reduceMul, Nat.reduceSub, reduceCtorEq, Nat.reduceBEq, Int.reduceToNat, Int.reducePow, if_pos, if_neg]))) | (with_reducible apply SC.ops)))
  refine SO.inlQ (by simp (disch := omega) only [go_sem] <;> rfl) Tab.go60 (by simp (disch := omega) only [go_sem, ↓reduceIte] <;> rfl) (by simp (disch := omega) only [go_sem] <;> rfl) (SInlQ.newR (cc 2) ?_ ?_ ?_)
  · exact klc (by omega) (klc (by omega) kln)
  · exact fun x hp' nx' h => rowsQ_new h
  rintro x hp' nx' ⟨o, ids, hR, rfl, rfl⟩
  rw [hwl] at hR
  have hI : Ids o ids ids M.length nx' := ⟨hR.len, hR.nod, fun i h => h, fun i h => (hR.lt i h).2, hR.o1.2, hR.o2⟩
  have ho := hR.o1
  have ce := echelon_s hp hp2 hWM w o nx' ids hI (Nat.le_add_right _ _) (by omega) (by omega)
  (repeat (first | (first | refine DO.nilC (by kernel_rfl) ?_ | refine DO.nil (by kernel_rfl) ?_) | (with_reducible first | apply oz1 | apply oz2 | apply oz3 | apply oz4 | apply oz5 | apply oz6 | apply oz7 | apply oz8 | apply oz9 | apply ozb | apply ozc | apply oze | apply ozf | apply ozg | apply ozh | apply ozi | apply ozj | apply ozk | refine ozd (by decide) ?_) | ((first | apply SO.call | apply DO.call); (iterate 3 (focus (simp (disch := omega) only [go_sem, ↓reduceIte, Nat.reduceEqDiff, if_neg] <;> rfl))); (first | apply SCall.ofX | apply DCall.ofX); (focus (first | assumption)); (focus (simp (disch := omega) only [go_sem, ↓reduceIte, Nat.reduceEqDiff, Nat.reduceLT, Nat.reduceLeDiff, Nat.reduceAdd, Nat.reduceMul, Nat.reduceSub, reduceCtorEq, Nat.reduceBEq, Int.reduceToNat, Int.reducePow, if_pos, if_neg, hwl] <;> rfl))) | ((with_reducible first | apply SC.condB | apply SC.region | apply SO.run | apply DO.run); (focus (simp (disch := omega) only [go_sem, ↓reduceIte, Nat.reduceEqDiff, reduceCtorEq, hwl] <;> rfl)); (first | refine pickT ?_ | refine pickF ?_ | fail_if_success with_reducible refine pickA ?_)) | ((with_reducible refine SC.draw Tab.mixed ?_ ?_); (focus (first | rfl | simp (disch := omega) only [go_sem, ↓reduceIte, Nat.reduceEqDiff, Nat.reduceLT, Nat.reduceLeDiff, Nat.reduceAdd, Nat.reduceMul, Nat.reduceSub, reduceCtorEq, Nat.reduceBEq, Int.reduceToNat, Int.reducePow, if_pos, if_neg, hwl]))) | (with_reducible apply SC.ops)))
  refine SO.inlQ (by simp (disch := omega) only [go_sem] <;> rfl) Tab.go50 (by simp (disch := omega) only [go_sem, ↓reduceIte, Nat.reduceEqDiff] <;> rfl) (by simp (disch := omega) only [go_sem] <;> rfl) (SInlQ.frame (pre := [(1, _), (0, _)]) (m := 2) ce ?_ ?_ ?_ ?_)
  · exact klc (by omega) (klc (by omega) kln)
  · have := (rowsQ_new (nx := 2) (w := w + M.length) (M := widenL M M.length) ⟨o, ids, by rw [hwl]; exact hR, rfl, rfl⟩).2.2
    exact this
  · exact fun x hp' nx2 h => echQ_new h ho.1 (fun i hi => (hR.lt i hi).1) (by omega)
  rintro x hp' nx2 ⟨ids', q, hI', hq1, hq2, rfl, rfl⟩
  rw [hwl] at hI'
  have hEl := hE1.1
  have hil := hI'.len
  have hids : ∀ i ∈ ids', 2 ≤ i ∧ i < nx' ∧ i ≠ o := fun i hi => by
    have := hR.lt i (hI'.sub i hi)
    exact ⟨this.1, this.2, fun e => hI'.o2 (e ▸ hi)⟩
  have hker : kernelL p w M = ((elimL p w (widenL M M.length)).1.drop (elimL p w (widenL M M.length)).2.length).map fun r => r.drop w := rfl
  rw [hker] at cr
  clear hK1 hker hE2
  generalize (elimL p w (widenL M M.length)).1 = W at *
  generalize (elimL p w (widenL M M.length)).2 = pv at *
  have t3 := wv_len pv
  have g1 := slR_len 1 (w + M.length) ids'
  rw [hil] at g1
  have hfrz : frz 8 ((1, (⟨29, [.sc (.int .u64 0), .sc (.int .i64 0), .sc (.slice none 0 0)], false⟩ : Blk)) :: (0, ⟨29, [.sc (.int .u64 p), .sc (.int .i64 w), .im (imR w (nR M)) M.length], false⟩) :: (q, ⟨3, wv pv, false⟩) :: (o, ⟨44, slR 1 (w + M.length) ids', false⟩) :: rowsH 26 ids' (nR W)) (.sl o 0 M.length 1 none) = some (.im (imR (w + M.length) (nR W)) M.length, o :: ids') := by
    have hgo : hget ((1, (⟨29, [.sc (.int .u64 0), .sc (.int .i64 0), .sc (.slice none 0 0)], false⟩ : Blk)) :: (0, ⟨29, [.sc (.int .u64 p), .sc (.int .i64 w), .im (imR w (nR M)) M.length], false⟩) :: (q, ⟨3, wv pv, false⟩) :: (o, ⟨44, slR 1 (w + M.length) ids', false⟩) :: rowsH 26 ids' (nR W)) o = some ⟨44, slR 1 (w + M.length) ids', false⟩ := by
      simp only [hget]
      rw [if_neg (by omega), if_neg (by omega), if_neg (by omega), if_pos trivial]
    rw [frz_sl, hgo, srcG_some, if_pos (by omega), List.drop_zero, List.take_of_length_le (by omega), fzQ_some, frz_rows (n := 6) (ty := 26) (rs := nR W) (by rw [nR_len]; omega) ?_ (nR_rows hE1)]
    · rfl
    · intro k hk
      have := hids _ (getD_mem' hk)
      simp only [hget]
      rw [if_neg (by omega), if_neg (by omega), if_neg (by omega), if_neg this.2.2, rows_get hI'.nod hk (by rw [nR_len]; omega)]
  refine SO.weak (Le.trans (Le.frz (y := .im (imR (w + M.length) (nR W)) M.length) (ids := o :: ids') 3 (show 3 < 53 by omega) hfrz) (Le.less (hp' := [(1, (⟨29, [.sc (.int .u64 0), .sc (.int .i64 0), .sc (.slice none 0 0)], false⟩ : Blk)), (0, ⟨29, [.sc (.int .u64 p), .sc (.int .i64 w), .im (imR w (nR M)) M.length], false⟩), (q, ⟨3, wv pv, false⟩)]) (fz_less fun id k hk => ?_) (Nat.le_refl _))) ?_
  · have hn1 : ∀ j : Nat, j < 2 ∨ j = q → j ∉ o :: ids' := by
      intro j hj hm
      rcases List.mem_cons.1 hm with e | e
      · omega
      · have := hids j e; omega
    show hget ((1, (⟨29, [.sc (.int .u64 0), .sc (.int .i64 0), .sc (.slice none 0 0)], false⟩ : Blk)) :: (0, ⟨29, [.sc (.int .u64 p), .sc (.int .i64 w), .im (imR w (nR M)) M.length], false⟩) :: (q, ⟨3, wv pv, false⟩) :: (o, ⟨44, slR 1 (w + M.length) ids', false⟩) :: rowsH 26 ids' (nR W)) id = some k ∧ _
    simp only [hget] at hk ⊢
    by_cases e1 : id = 1
    · rw [if_pos e1] at hk ⊢; exact ⟨hk, hn1 id (by omega)⟩
    · rw [if_neg e1] at hk ⊢
      by_cases e2 : id = 0
      · rw [if_pos e2] at hk ⊢; exact ⟨hk, hn1 id (by omega)⟩
      · rw [if_neg e2] at hk ⊢
        by_cases e3 : id = q
        · rw [if_pos e3] at hk ⊢; exact ⟨hk, hn1 id (by omega)⟩
        · rw [if_neg e3] at hk; cases hk
  clear hfrz
  obtain ⟨m, hm⟩ : ∃ m, m = M.length - pv.length := ⟨_, rfl⟩
  have hdr := imR_drop (w + M.length) W pv.length m (by omega)
  have hle : pv.length ≤ M.length := hkn
  have hsz := imR_len (w + M.length) (W.drop pv.length)
  rw [List.length_drop, hEl, ← hm] at hsz
  have hKl : ((W.drop pv.length).map fun r => r.drop w).length = m := by rw [List.length_map, List.length_drop]; omega
  (repeat (first | (first | refine DO.nilC (by kernel_rfl) ?_ | refine DO.nil (by kernel_rfl) ?_) | (with_reducible first | apply oz1 | apply oz2 | apply oz3 | apply oz4 | apply oz5 | apply oz6 | apply oz7 | apply oz8 | apply oz9 | apply ozb | apply ozc | apply oze | apply ozf | apply ozg | apply ozh | apply ozi | apply ozj | apply ozk | refine ozd (by decide) ?_) | ((first | apply SO.call | apply DO.call); (iterate 3 (focus (simp (disch := omega) only [go_sem, ↓reduceIte, Nat.reduceEqDiff, Nat.reduceLT, Nat.reduceLeDiff, Nat.reduceAdd, Nat.reduceMul, Nat.reduceSub, reduceCtorEq, Nat.reduceBEq, Int.reduceToNat, Int.reducePow, if_pos, if_neg, t3, hdr, ← hm] <;> rfl))); (first | apply SCall.ofX | apply DCall.ofX); (focus (first | assumption)); (focus (simp (disch := omega) only [go_sem, ↓reduceIte, Nat.reduceEqDiff, Nat.reduceLT, Nat.reduceLeDiff, Nat.reduceAdd, Nat.reduceMul, Nat.reduceSub, reduceCtorEq, Nat.reduceBEq, Int.reduceToNat, Int.reducePow, if_pos, if_neg, t3, hdr, ← hm] <;> rfl))) | ((with_reducible first | apply SC.condB | apply SC.region | apply SO.run | apply DO.run); (focus (simp (disch := omega) only [go_sem, ↓reduceIte, Nat.reduceEqDiff, Nat.reduceLeDiff, Nat.reduceAdd, reduceCtorEq, if_pos, hdr, ← hm] <;> rfl)); (first | refine pickT ?_ | refine pickF ?_ | fail_if_success with_reducible refine pickA ?_)) | ((with_reducible refine SC.draw Tab.mixed ?_ ?_); (focus (first | rfl | simp (disch := omega) only [go_sem, ↓reduceIte, Nat.reduceEqDiff, Nat.reduceLT, Nat.reduceLeDiff, Nat.reduceAdd, Nat.reduceMul, Nat.reduceSub, reduceCtorEq, Nat.reduceBEq, Int.reduceToNat, Int.reducePow, if_pos, if_neg, t3, hdr, ← hm]))) | (with_reducible apply SC.ops)))
  rw [hKl] at cr
  have hrows : ∀ j, j < m → ((W.drop pv.length).getD j []).length = w + M.length := fun j hj => by
    rw [List.getD_eq_getElem?_getD, List.getElem?_eq_getElem (by rw [List.length_drop]; omega)]
    exact (hE1.2 _ (List.mem_of_mem_drop (List.getElem_mem _))).1
  have hkt : ∀ j, j < m → ((W.drop pv.length).map fun r => r.drop w).take (j + 1) = ((W.drop pv.length).map fun r => r.drop w).take j ++ [((W.drop pv.length).getD j []).drop w] := fun j hj => by
    rw [take_snoc (d := []) (by omega)]
    congr 2
    rw [List.getD_eq_getElem?_getD, List.getElem?_map, List.getD_eq_getElem?_getD]
    cases e : (W.drop pv.length)[j]? with
    | none => rw [List.getElem?_eq_none_iff] at e; rw [List.length_drop] at e; omega
    | some r => rfl
  have hget' : ∀ j, j < m → (imR (w + M.length) (nR (W.drop pv.length)))[j]? = some (.im (nv ((W.drop pv.length).getD j [])) (w + M.length)) := fun j hj => imR_get (by rw [List.length_drop]; omega)
  generalize hK : ((W.drop pv.length).map fun r => r.drop w) = Kl at *
  generalize imR (w + M.length) (nR (W.drop pv.length)) = WI at *
  refine SC.loop (fun x : Nat × Nat × Nat => ⟨[(1, .pt 0 0), (2, .pt 1 0), (5, .pt nx2 0), (31, .im WI m), (32, .sc (.int .i64 m)), (33, .sc (.int .i64 x.1))], [(nx2, ⟨29, [.sc (.int .u64 p), .sc (.int .i64 M.length), .sl x.2.1 0 x.1 1 none], false⟩), (1, ⟨29, [.sc (.int .u64 0), .sc (.int .i64 0), .sc (.slice none 0 0)], false⟩), (0, ⟨29, [.sc (.int .u64 p), .sc (.int .i64 w), .im (imR w (nR M)) M.length], false⟩), (x.2.1, ⟨44, imR M.length (nR (Kl.take x.1)), false⟩)], x.2.2, 53⟩)
    (fun x => x.1 ≤ m ∧ nx2 < x.2.1 ∧ x.2.1 < x.2.2) (fun x => m - x.1) (0, nx2 + 1, nx2 + 2) ?_ ?_ ?_
  · refine Le.map (m := 0) (fun i => i) (fun i => i < nx2 + 1) hB (fun i hi => by omega) (fun i hi => by simp only; omega) (fun i j _ _ e => e) ?_ fun i k' hk' hlt => ?_
    · (repeat' (first | exact trivial | refine mapSl_cons (by simp (disch := omega) only [go_sem, ↓reduceIte, Nat.reduceEqDiff] <;> rfl) ?_ ?_ | exact VMap.junk _ | exact VMap.sc _ | exact VMap.clo rfl | exact VMap.sl rfl (by omega) | exact VMap.cap rfl (by omega) | exact VMap.pt rfl (by omega) | exact VMap.nil_sl _ _ _ | exact VMap.int (by first | rfl | omega | (dsimp only; omega))))
    · simp only [hget] at hk' ⊢
      by_cases e1 : i = nx2
      · rw [if_pos e1] at hk' ⊢
        cases hk'
        refine ⟨_, rfl, rfl, rfl, fun j y hy => ?_⟩
        match j, hy with
        | 0, hy => cases hy; exact ⟨_, rfl, VMap.sc _⟩
        | 1, hy => cases hy; exact ⟨_, rfl, VMap.sc _⟩
        | 2, hy => cases hy; exact ⟨_, rfl, VMap.nil_sl _ _ _⟩
        | j + 3, hy => simp at hy
      · rw [if_neg e1] at hk' ⊢
        by_cases e2 : i = 1
        · rw [if_pos e2] at hk' ⊢
          cases hk'
          refine ⟨_, rfl, rfl, rfl, fun j y hy => ⟨y, hy, ?_⟩⟩
          match j, hy with
          | 0, hy => cases hy; exact VMap.sc _
          | 1, hy => cases hy; exact VMap.sc _
          | 2, hy => cases hy; exact VMap.nil
          | j + 3, hy => simp at hy
        · rw [if_neg e2] at hk' ⊢
          by_cases e3 : i = 0
          · rw [if_pos e3] at hk' ⊢
            cases hk'
            exact BMap.clo rfl
          · rw [if_neg e3] at hk'
            rw [if_neg (by omega)] at hk'; cases hk'
  · exact ⟨Nat.zero_le _, by simp, by simp⟩
  · rintro ⟨j, q1, nx⟩ ⟨hj, hq1, hq2⟩ K hKK
    simp only at hj hq1 hq2 ⊢
    have u1 := imR_len M.length (Kl.take j)
    rw [List.length_take, Nat.min_eq_left (by omega)] at u1
    have u2 : (imR M.length (nR (Kl.take j))).take j = imR M.length (nR (Kl.take j)) := List.take_of_length_le (by omega)
    by_cases hjm : j < m
    · have q5 := decide_eq_true (p := (j : Int) < (m : Int)) (by omega)
      have v1 := hget' j hjm
      have v2 := hrows j hjm
      have v3 := hkt j hjm
      have v4 := imR_snoc M.length (Kl.take j) (((W.drop pv.length).getD j []).drop w)
      rw [← v3] at v4
      have v5 : w + M.length - w = M.length := by omega
      have v6 : ((nv ((W.drop pv.length).getD j [])).drop w).take M.length = nv (((W.drop pv.length).getD j []).drop w) := by
        rw [nv_drop]; exact List.take_of_length_le (by rw [nv_len, List.length_drop]; omega)
      generalize (W.drop pv.length).getD j [] = row at *
      generalize nv (row.drop w) = R1 at *
      (repeat (first | (first | refine DO.nilC (by kernel_rfl) ?_ | refine DO.nil (by kernel_rfl) ?_) | (with_reducible refine SC.condB (by simp (disch := omega) only [go_sem, ↓reduceIte]; rfl) ?_; first | with_reducible refine pickT ?_ | with_reducible refine pickF ?_) | (with_reducible first | apply oz1 | apply oz2 | apply oz3 | apply oz4 | apply oz5 | apply oz6 | apply oz7 | apply oz8 | apply oz9 | apply ozb | apply ozc | apply oze | apply ozf | apply ozg | apply ozh | apply ozi | apply ozj | apply ozk | refine ozd (by decide) ?_) | ((with_reducible apply SC.region); (focus (simp (disch := omega) only [go_sem, ↓reduceIte, Nat.reduceEqDiff, if_pos, q5, hsz, v1, List.getElem?_drop]; rfl))) | (with_reducible refine SC.draw Tab.mixed rfl ?_; (repeat (refine DO.run (by simp (disch := omega) only [go_sem, ↓reduceIte, Nat.reduceEqDiff, Nat.reduceLT, Nat.reduceLeDiff, Nat.reduceAdd, Nat.reduceMul, Nat.reduceSub, reduceCtorEq, Nat.reduceBEq, Int.reduceToNat, Int.reducePow, if_pos, if_neg, q5, hsz, v1, List.getElem?_drop]; rfl) ?_)); (first | refine DO.nilC (by kernel_rfl) ?_ | refine DO.nil (by kernel_rfl) ?_))))
      refine SC.drawT 7 (by simp only [List.take_succ_cons, List.take_zero]; rfl) (by simp only [List.drop_succ_cons, List.drop_zero]; rfl) Tab.mixed ?_ (by kernel_rfl) ?_
      · exact klc (show nx2 < nx by omega) (klc (show 1 < nx by omega) (klc (show 0 < nx by omega) (klc (show q1 < nx by omega) kln)))
      (repeat (first | (first | refine DO.nilC (by kernel_rfl) ?_ | refine DO.nil (by kernel_rfl) ?_) | (with_reducible first | apply oz1 | apply oz2 | apply oz3 | apply oz4 | apply oz5 | apply oz6 | apply oz7 | apply oz8 | apply oz9 | apply ozb | apply ozc | apply oze | apply ozf | apply ozg | apply ozh | apply ozi | apply ozj | apply ozk | refine ozd (by decide) ?_) | ((first | apply SO.call | apply DO.call); (iterate 3 (focus (simp (disch := omega) only [go_sem, ↓reduceIte, Nat.reduceEqDiff, Nat.reduceLT, Nat.reduceLeDiff, Nat.reduceAdd, Nat.reduceMul, Nat.reduceSub, reduceCtorEq, Nat.reduceBEq, Int.reduceToNat, Int.reducePow, if_pos, if_neg, v5, v6] <;> rfl))); (first | apply SCall.ofX | apply DCall.ofX); (focus (first | assumption)); (focus (simp (disch := omega) only [go_sem, ↓reduceIte, Nat.reduceEqDiff, Nat.reduceLT, Nat.reduceLeDiff, Nat.reduceAdd, Nat.reduceMul, Nat.reduceSub, reduceCtorEq, Nat.reduceBEq, Int.reduceToNat, Int.reducePow, if_pos, if_neg, v5, v6] <;> rfl))) | ((with_reducible first | apply SC.condB | apply SC.region | apply SO.run | apply DO.run); (focus (simp (disch := omega) only [go_sem, ↓reduceIte, Nat.reduceEqDiff, Nat.reduceLeDiff, reduceCtorEq, if_pos, if_neg, v5, v6] <;> rfl)); (first | refine pickT ?_ | refine pickF ?_ | fail_if_success with_reducible refine pickA ?_)) | ((with_reducible refine SC.draw Tab.mixed ?_ ?_); (focus (first | rfl | simp (disch := omega) only [go_sem, ↓reduceIte, Nat.reduceEqDiff, Nat.reduceLT, Nat.reduceLeDiff, Nat.reduceAdd, Nat.reduceMul, Nat.reduceSub, reduceCtorEq, Nat.reduceBEq, Int.reduceToNat, Int.reducePow, if_pos, if_neg, v5, v6]))) | (with_reducible apply SC.ops)))
      show SO _ _ _ _ _ _ _
      (repeat (first | (first | refine DO.nilC (by kernel_rfl) ?_ | refine DO.nil (by kernel_rfl) ?_) | (with_reducible first | apply oz1 | apply oz2 | apply oz3 | apply oz4 | apply oz5 | apply oz6 | apply oz7 | apply oz8 | apply oz9 | apply ozb | apply ozc | apply oze | apply ozf | apply ozg | apply ozh | apply ozi | apply ozj | apply ozk | refine ozd (by decide) ?_) | ((first | apply SO.call | apply DO.call); (iterate 3 (focus (simp (disch := omega) only [go_sem, ↓reduceIte, Nat.reduceEqDiff, Nat.reduceLT, Nat.reduceLeDiff, Nat.reduceAdd, Nat.reduceMul, Nat.reduceSub, reduceCtorEq, Nat.reduceBEq, Int.reduceToNat, Int.reducePow, if_pos, if_neg, v4, u1, u2] <;> rfl))); (first | apply SCall.ofX | apply DCall.ofX); (focus (first | assumption)); (focus (simp (disch := omega) only [go_sem, ↓reduceIte, Nat.reduceEqDiff, Nat.reduceLT, Nat.reduceLeDiff, Nat.reduceAdd, Nat.reduceMul, Nat.reduceSub, reduceCtorEq, Nat.reduceBEq, Int.reduceToNat, Int.reducePow, if_pos, if_neg, v4, u1, u2] <;> rfl))) | ((with_reducible first | apply SC.condB | apply SC.region | apply SO.run | apply DO.run); (focus (simp (disch := omega) only [go_sem, ↓reduceIte, Nat.reduceEqDiff, Nat.reduceLeDiff, Nat.reduceAdd, reduceCtorEq, if_pos, if_neg, v4, u1, u2] <;> rfl)); (first | refine pickT ?_ | refine pickF ?_ | fail_if_success with_reducible refine pickA ?_)) | ((with_reducible refine SC.draw Tab.mixed ?_ ?_); (focus (first | rfl | simp (disch := omega) only [go_sem, ↓reduceIte, Nat.reduceEqDiff, Nat.reduceLT, Nat.reduceLeDiff, Nat.reduceAdd, Nat.reduceMul, Nat.reduceSub, reduceCtorEq, Nat.reduceBEq, Int.reduceToNat, Int.reducePow, if_pos, if_neg, v4, u1, u2]))) | (with_reducible apply SC.ops)))
      refine hKK _ (j + 1, nx + 1, nx + 2) ?_ ⟨by simp only; omega, by simp only; omega, by simp only; omega⟩ (by simp only; omega)
      refine Le.slots ?_ (fun id k h => ?_) (Nat.le_refl _)
      · repeat' (first | exact leSl_nil | refine leSl_cons (by simp (disch := omega) only [go_sem, ↓reduceIte, Nat.reduceEqDiff] <;> rfl) ?_ ?_ | exact VLe.refl rfl | exact VLe.int (by omega))
      · simp only [hget] at h ⊢
        (repeat' (split at h)) <;> first | (cases h; done) | (simp (disch := omega) only [if_pos, if_neg]; exact h)
    · have q5 := decide_eq_false (p := (j : Int) < (m : Int)) (by omega)
      have hjm' : j = m := by omega
      subst hjm'
      rw [List.take_of_length_le (by omega : Kl.length ≤ j)] at u1 u2 ⊢
      have u3 := imR_clo M.length (nR Kl)
      have b1 : (nx2 == q1) = false := beq_eq_false_iff_ne.2 (by omega)
      have b2 : (1 == q1) = false := beq_eq_false_iff_ne.2 (by omega)
      have b3 : (0 == q1) = false := beq_eq_false_iff_ne.2 (by omega)
      (repeat (first | (first | refine DO.nilC (by kernel_rfl) ?_ | refine DO.nil (by kernel_rfl) ?_) | (with_reducible first | apply oz1 | apply oz2 | apply oz3 | apply oz4 | apply oz5 | apply oz6 | apply oz7 | apply oz8 | apply oz9 | apply ozb | apply ozc | apply oze | apply ozf | apply ozg | apply ozh | apply ozi | apply ozj | apply ozk | refine ozd (by decide) ?_) | ((first | apply SO.call | apply DO.call); (iterate 3 (focus (simp (disch := omega) only [go_sem, ↓reduceIte, if_pos, if_neg, u1, u2, u3] <;> rfl))); (first | apply SCall.ofX | apply DCall.ofX); (focus (first | assumption)); (focus (simp (disch := omega) only [go_sem, ↓reduceIte, b1, b2, b3, beq_self_eq_true] <;> rfl))) | ((with_reducible first | apply SC.condB | apply SC.region | apply SO.run | apply DO.run); (focus (simp (disch := omega) only [go_sem, ↓reduceIte, Nat.reduceEqDiff, Nat.reduceLT, Nat.reduceLeDiff, Nat.reduceAdd, if_neg, q5] <;> rfl)); (first | refine pickT ?_ | refine pickF ?_ | fail_if_success with_reducible refine pickA ?_)) | ((with_reducible refine SC.draw Tab.mixed ?_ ?_); (focus (first | rfl | simp (disch := omega) only [go_sem, ↓reduceIte, Nat.reduceEqDiff, Nat.reduceLT, Nat.reduceLeDiff, Nat.reduceAdd, Nat.reduceMul, Nat.reduceSub, reduceCtorEq, Nat.reduceBEq, Int.reduceToNat, Int.reducePow, if_pos, if_neg, q5, u1, u2, u3, b1, b2, b3, beq_self_eq_true]))) | (with_reducible apply SC.ops)))
      exact retQ_ret Try.results18 (by simp (disch := omega) only [go_sem, ↓reduceIte, Nat.reduceEqDiff, Nat.reduceLeDiff, Nat.reduceAdd, if_neg] <;> rfl) (by simp (disch := omega) only [go_sem, ↓reduceIte] <;> rfl) rfl
end Go.Proofs.Ytpbomhmflllemaa

/- Contract: Solve. -/
namespace Go.Proofs.Ytpbomhmflllemaa
open Go.RowKit
theorem frz_func (n : Nat) (hp : List (Nat × Blk)) (f : Fn) (p q : Array Value) : frz (n + 1) hp (.sc (.func f p q)) = some (.sc (.func f p q), []) := rfl
theorem solve1_s (x : Nat) : Spec Try.prog 65 ([] ++ [.sc (.int .u64 (x : Int))] ++ []) (.sc (.bool (x != 0))) := by
  have q1 : ((x : Int) != 0) = (x != 0) := by
    rw [Bool.eq_iff_iff, bne_iff_ne, bne_iff_ne]; omega
  show Spec _ _ [.sc (.int .u64 (x : Int))] _
  refine Spec.run Try.func65 rfl Try.ntmps65 (by simp) (by simp (disch := omega) only [go_sem]; rfl) fun B hB => ?_
  (repeat (first | (first | refine DO.nilC (by kernel_rfl) ?_ | refine DO.nil (by kernel_rfl) ?_) | (with_reducible first | apply oz1 | apply oz2 | apply oz3 | apply oz4 | apply oz5 | apply oz6 | apply oz7 | apply oz8 | apply oz9 | apply ozb | apply ozc | apply oze | apply ozf | apply ozg | apply ozh | apply ozi | apply ozj | apply ozk | refine ozd (by decide) ?_) | ((first | apply SO.call | apply DO.call); (iterate 3 (focus (simp (disch := omega) only [go_sem, ↓reduceIte, Nat.reduceEqDiff, Nat.reduceLT, Nat.reduceLeDiff, Nat.reduceAdd, Nat.reduceMul, Nat.reduceSub, reduceCtorEq, Nat.reduceBEq, Int.reduceToNat, Int.reducePow, if_pos, if_neg, q1] <;> rfl))); (first | apply SCall.ofX | apply DCall.ofX); (focus (first | assumption)); (focus (simp (disch := omega) only [go_sem, ↓reduceIte, Nat.reduceEqDiff, Nat.reduceLT, Nat.reduceLeDiff, Nat.reduceAdd, Nat.reduceMul, Nat.reduceSub, reduceCtorEq, Nat.reduceBEq, Int.reduceToNat, Int.reducePow, if_pos, if_neg, q1] <;> rfl))) | ((with_reducible first | apply SC.condB | apply SC.region | apply SO.run | apply DO.run); (focus (simp (disch := omega) only [go_sem, ↓reduceIte, Nat.reduceLT, reduceCtorEq, q1] <;> rfl)); (first | refine pickT ?_ | refine pickF ?_ | fail_if_success with_reducible refine pickA ?_)) | ((with_reducible refine SC.draw Tab.mixed ?_ ?_); (focus (first | rfl | simp (disch := omega) only [go_sem, ↓reduceIte, Nat.reduceEqDiff, Nat.reduceLT, Nat.reduceLeDiff, Nat.reduceAdd, Nat.reduceMul, Nat.reduceSub, reduceCtorEq, Nat.reduceBEq, Int.reduceToNat, Int.reducePow, if_pos, if_neg, q1]))) | (with_reducible apply SC.ops)))
  exact retQ_ret Try.results65 (by simp (disch := omega) only [go_sem, ↓reduceIte] <;> rfl) (by simp (disch := omega) only [go_sem] <;> rfl) rfl
theorem some_s {r : List Nat} {w : Nat} (hr : r.length = w) (hw : w ≤ 1000000) : Spec Try.prog 64 [.im (nv r) w, .sc (.func (.func 65) #[] #[])] (.sc (.bool (!zeroL r))) := by
  have c1 := contains_s (r := r) (w := w) (F := .sc (.func (.func 65) #[] #[])) (frz_func _ _ _ _ _) (fun x => x != 0) (index_s hr hw (fun x => x != 0) rfl Tab.go65 rfl (fun x => by simp (disch := omega) only [go_sem]) (fun x _ => solve1_s x))
  have e : r.any (fun x => x != 0) = !zeroL r := by
    unfold zeroL
    rw [List.any_eq_not_all_not]
    congr 2
    funext x
    simp only [bne, Bool.not_not]
  rwa [e] at c1
def solV (n : Nat) : Option (List Nat) → V
  | some x => .tu [.im (nv x) n, .sc (.bool true)]
  | none => .tu [.im [] 0, .sc (.bool false)]
def negL (p n : Nat) (ys : List Nat) (j : Nat) : List Nat := (ys.take j).map (fun y => (0 + p - y) % p) ++ List.replicate (n - j) 0
theorem negL_len {p n j : Nat} {ys : List Nat} (h : ys.length = n) (hj : j ≤ n) : (negL p n ys j).length = n := by
  unfold negL
  rw [List.length_append, List.length_map, List.length_take, List.length_replicate]; omega
theorem negL_zero {p n : Nat} {ys : List Nat} : negL p n ys 0 = List.replicate n 0 := rfl
theorem negL_set {p n j : Nat} {ys : List Nat} (h : ys.length = n) (hj : j < n) : (negL p n ys j).set j ((0 + p - ys.getD j 0) % p) = negL p n ys (j + 1) := by
  unfold negL
  have hl : ((ys.take j).map (fun y => (0 + p - y) % p)).length = j := by rw [List.length_map, List.length_take]; omega
  rw [List.set_append_right _ _ (by omega), take_snoc (d := 0) (by omega), hl, Nat.sub_self, show n - j = (n - (j + 1)) + 1 by omega, List.replicate_succ, List.set_cons_zero, List.map_append, List.append_assoc]
  rfl
theorem negL_end {p n : Nat} {ys : List Nat} (h : ys.length = n) : negL p n ys n = ys.map fun y => (0 + p - y) % p := by
  unfold negL
  rw [List.take_of_length_le (by omega), Nat.sub_self, List.replicate_zero, List.append_nil]
set_option maxHeartbeats 8000000 in
set_option maxRecDepth 8000 in
theorem solve_s {p n w : Nat} {M : List (List Nat)} {b : List Nat} (hpr : Spec Try.prog 73 [.sc (.int .u64 p)] (.sc (.bool true))) (hp : Pr p) (hp2 : p ≤ 2147483647) (hM : MV p n w M) (hb : Rw p w b) (hn : n ≤ 500000) (hw : w ≤ 500000) :
    Spec Try.prog 25 [md p w M, .im (nv b) w] (solV n (solveL p w M b)) := by
  have hp1 := hp.1
  have hl := hM.1
  subst hl
  have cv := valid_s hpr hM (by omega) (by omega)
  have cb := below_s hb (by omega)
  have cc := fun nx => widened_s hM nx (by omega) (by omega)
  haveI : NeZero p := ⟨by omega⟩
  have hWM := widenL_mv (by omega) hM
  obtain ⟨hE1, hE2⟩ := elimL_end hp (Nat.le_add_right w M.length) hWM
  have hkn := hE2.kn
  have hlt : ∀ i, i < (elimL p w (widenL M M.length)).2.length → (elimL p w (widenL M M.length)).2.getD i 0 < w := hE2.lt
  obtain ⟨hr1, _⟩ := restL_post hp hM hb
  have hwl : (widenL M M.length).length = M.length := hWM.1
  unfold solveL
  have hrest : restL p w M b = restGo p (elimL p w (widenL M M.length)).1 0 (elimL p w (widenL M M.length)).2 (b ++ List.replicate M.length 0) := rfl
  generalize restL p w M b = RL at *
  have hbl := hb.1
  have gb := nv_len b
  rw [hbl] at gb
  unfold md mv at cv cc ⊢
  refine Spec.run Try.func25 rfl Try.ntmps25 (by simp) (by simp (disch := omega) only [go_sem, Nat.reduceAdd]; rfl) fun B hB => ?_
  (repeat (first | (first | refine DO.nilC (by kernel_rfl) ?_ | refine DO.nil (by kernel_rfl) ?_) | (with_reducible first | apply oz1 | apply oz2 | apply oz3 | apply oz4 | apply oz5 | apply oz6 | apply oz7 | apply oz8 | apply oz9 | apply ozb | apply ozc | apply oze | apply ozf | apply ozg | apply ozh | apply ozi | apply ozj | apply ozk | refine ozd (by decide) ?_) | ((first | apply SO.call | apply DO.call); (iterate 3 (focus (simp (disch := omega) only [go_sem, ↓reduceIte, Nat.reduceEqDiff] <;> rfl))); (first | apply SCall.ofX | apply DCall.ofX); (focus (first | assumption)); (focus (simp (disch := omega) only [go_sem] <;> rfl))) | ((with_reducible first | apply SC.condB | apply SC.region | apply SO.run | apply DO.run); (focus (simp (disch := omega) only [go_sem, ↓reduceIte, Nat.reduceEqDiff, Nat.reduceLeDiff, Nat.reduceAdd, reduceCtorEq, bne_self_eq_false] <;> rfl)); (first | refine pickT ?_ | refine pickF ?_ | fail_if_success with_reducible refine pickA ?_)) | ((with_reducible refine SC.draw Tab.mixed ?_ ?_); (focus (first | rfl | simp (disch := omega) only [go_sem, ↓reduceIte, Nat.reduceEqDiff, Nat.reduceLT, Nat.reduceLeDiff, Nat.reduceAdd, Nat.reduceMul, Nat.reduceSub, reduceCtorEq, Nat.reduceBEq, Int.reduceToNat, Int.reducePow, if_pos, if_neg, bne_self_eq_false]))) | (with_reducible apply SC.ops)))
  refine SO.inlQ (by simp (disch := omega) only [go_sem] <;> rfl) Tab.go60 (by simp (disch := omega) only [go_sem, ↓reduceIte] <;> rfl) (by simp (disch := omega) only [go_sem] <;> rfl) (SInlQ.newR (cc 1) ?_ ?_ ?_)
  · exact klc (by omega) kln
  · exact fun x hp' nx' h => rowsQ_new h
  rintro x hp' nx' ⟨o, ids, hR, rfl, rfl⟩
  rw [hwl] at hR
  have hI : Ids o ids ids M.length nx' := ⟨hR.len, hR.nod, fun i h => h, fun i h => (hR.lt i h).2, hR.o1.2, hR.o2⟩
  have ho := hR.o1
  have ce := echelon_s hp hp2 hWM w o nx' ids hI (Nat.le_add_right _ _) (by omega) (by omega)
  (repeat (first | (first | refine DO.nilC (by kernel_rfl) ?_ | refine DO.nil (by kernel_rfl) ?_) | (with_reducible first | apply oz1 | apply oz2 | apply oz3 | apply oz4 | apply oz5 | apply oz6 | apply oz7 | apply oz8 | apply oz9 | apply ozb | apply ozc | apply oze | apply ozf | apply ozg | apply ozh | apply ozi | apply ozj | apply ozk | refine ozd (by decide) ?_) | ((first | apply SO.call | apply DO.call); (iterate 3 (focus (simp (disch := omega) only [go_sem, ↓reduceIte, Nat.reduceEqDiff, if_neg] <;> rfl))); (first | apply SCall.ofX | apply DCall.ofX); (focus (first | assumption)); (focus (simp (disch := omega) only [go_sem, ↓reduceIte, Nat.reduceEqDiff, Nat.reduceLT, Nat.reduceLeDiff, Nat.reduceAdd, Nat.reduceMul, Nat.reduceSub, reduceCtorEq, Nat.reduceBEq, Int.reduceToNat, Int.reducePow, if_pos, if_neg, hwl] <;> rfl))) | ((with_reducible first | apply SC.condB | apply SC.region | apply SO.run | apply DO.run); (focus (simp (disch := omega) only [go_sem, ↓reduceIte, Nat.reduceEqDiff, reduceCtorEq, hwl] <;> rfl)); (first | refine pickT ?_ | refine pickF ?_ | fail_if_success with_reducible refine pickA ?_)) | ((with_reducible refine SC.draw Tab.mixed ?_ ?_); (focus (first | rfl | simp (disch := omega) only [go_sem, ↓reduceIte, Nat.reduceEqDiff, Nat.reduceLT, Nat.reduceLeDiff, Nat.reduceAdd, Nat.reduceMul, Nat.reduceSub, reduceCtorEq, Nat.reduceBEq, Int.reduceToNat, Int.reducePow, if_pos, if_neg, hwl]))) | (with_reducible apply SC.ops)))
  refine SO.inlQ (by simp (disch := omega) only [go_sem] <;> rfl) Tab.go50 (by simp (disch := omega) only [go_sem, ↓reduceIte, Nat.reduceEqDiff] <;> rfl) (by simp (disch := omega) only [go_sem] <;> rfl) (SInlQ.frame (pre := [(0, _)]) (m := 1) ce ?_ ?_ ?_ ?_)
  · exact klc (by omega) kln
  · exact (rowsQ_new (nx := 1) (w := w + M.length) (M := widenL M M.length) ⟨o, ids, by rw [hwl]; exact hR, rfl, rfl⟩).2.2
  · exact fun x hp' nx2 h => echQ_new h ho.1 (fun i hi => (hR.lt i hi).1) (by omega)
  rintro x hp' nx2 ⟨ids', q, hI', hq1, hq2, rfl, rfl⟩
  rw [hwl] at hI'
  have hEl := hE1.1
  have hil := hI'.len
  have hids : ∀ i ∈ ids', 1 ≤ i ∧ i < nx' ∧ i ≠ o := fun i hi => by
    have := hR.lt i (hI'.sub i hi)
    exact ⟨this.1, this.2, fun e => hI'.o2 (e ▸ hi)⟩
  clear hE2 cv cc ce
  generalize (elimL p w (widenL M M.length)).1 = W at *
  generalize (elimL p w (widenL M M.length)).2 = pv at *
  have t3 := wv_len pv
  have g1 := slR_len 1 (w + M.length) ids'
  rw [hil] at g1
  have t1 : ((w : Int) + (M.length : Int)).toNat = w + M.length := by omega
  have t2 := nv_repl (w + M.length)
  have t4 := nv_len (List.replicate (w + M.length) 0)
  rw [List.length_replicate] at t4
  have t5 : min w (w + M.length) = w := by omega
  have t6 : (nv b).take w = nv b := List.take_of_length_le (by omega)
  have t7 := nv_one b
  have t8 : setAll (nv (List.replicate (w + M.length) 0)) 0 (nv b) = nv (b ++ List.replicate M.length 0) := by
    rw [setAll_all _ _ _ (by rw [gb, t4]; omega), List.take_zero, List.nil_append, nv_drop, nv_app, gb, Nat.zero_add, List.drop_replicate, Nat.add_sub_cancel_left]
  have hb0 : Rw p (w + M.length) (b ++ List.replicate M.length 0) := ⟨by simp [hbl], fun x hx => by
    rcases List.mem_append.1 hx with g | g
    · exact hb.2 x g
    · rw [List.eq_of_mem_replicate g]; omega⟩
  generalize b ++ List.replicate M.length 0 = r0 at *
  (repeat (first | (first | refine DO.nilC (by kernel_rfl) ?_ | refine DO.nil (by kernel_rfl) ?_) | (with_reducible first | apply oz1 | apply oz2 | apply oz3 | apply oz4 | apply oz5 | apply oz6 | apply oz7 | apply oz8 | apply oz9 | apply ozb | apply ozc | apply oze | apply ozf | apply ozg | apply ozh | apply ozi | apply ozj | apply ozk | refine ozd (by decide) ?_) | ((first | apply SO.call | apply DO.call); (iterate 3 (focus (simp (disch := omega) only [go_sem, ↓reduceIte, Nat.reduceEqDiff, Nat.reduceLT, Nat.reduceLeDiff, Nat.reduceAdd, Nat.reduceMul, Nat.reduceSub, reduceCtorEq, Nat.reduceBEq, Int.reduceToNat, Int.reducePow, if_pos, if_neg, t1, t2, t3, t4, t5, t6, t7, t8, gb] <;> rfl))); (first | apply SCall.ofX | apply DCall.ofX); (focus (first | assumption)); (focus (simp (disch := omega) only [go_sem, ↓reduceIte, Nat.reduceEqDiff, Nat.reduceLT, Nat.reduceLeDiff, Nat.reduceAdd, Nat.reduceMul, Nat.reduceSub, reduceCtorEq, Nat.reduceBEq, Int.reduceToNat, Int.reducePow, if_pos, if_neg, t1, t2, t3, t4, t5, t6, t7, t8, gb] <;> rfl))) | ((with_reducible first | apply SC.condB | apply SC.region | apply SO.run | apply DO.run); (focus (simp (disch := omega) only [go_sem, ↓reduceIte, Nat.reduceEqDiff, reduceCtorEq, if_pos, t1, t2, t4, t5, t6, t7, t8, gb] <;> rfl)); (first | refine pickT ?_ | refine pickF ?_ | fail_if_success with_reducible refine pickA ?_)) | ((with_reducible refine SC.draw Tab.mixed ?_ ?_); (focus (first | rfl | simp (disch := omega) only [go_sem, ↓reduceIte, Nat.reduceEqDiff, Nat.reduceLT, Nat.reduceLeDiff, Nat.reduceAdd, Nat.reduceMul, Nat.reduceSub, reduceCtorEq, Nat.reduceBEq, Int.reduceToNat, Int.reducePow, if_pos, if_neg, t1, t2, t3, t4, t5, t6, t7, t8, gb]))) | (with_reducible apply SC.ops)))
  refine SC.loop (fun x : Nat × List Nat => ⟨[(2, .pt 0 0), (6, .sl o 0 M.length 1 none), (8, .sl nx2 0 (w + M.length) 1 none), (49, .sl q 0 pv.length 1 none), (50, .sc (.int .i64 pv.length)), (51, .sc (.int .i64 x.1))], (nx2, ⟨26, nv x.2, false⟩) :: (0, ⟨29, [.sc (.int .u64 p), .sc (.int .i64 w), .im (imR w (nR M)) M.length], false⟩) :: (q, ⟨3, wv pv, false⟩) :: (o, ⟨44, slR 1 (w + M.length) ids', false⟩) :: rowsH 26 ids' (nR W), nx2 + 1, 100⟩)
    (fun x => x.1 ≤ pv.length ∧ Rw p (w + M.length) x.2 ∧ restGo p W x.1 (pv.drop x.1) x.2 = RL) (fun x => pv.length - x.1) (0, r0) ?_ ?_ ?_
  · (refine Le.slots ?_ ?_ ?_ <;> (repeat' (first | (exact fun _ _ h => h) | exact Nat.le_refl _ | exact leSl_nil | refine leSl_cons (by simp (disch := omega) only [go_sem, ↓reduceIte, Nat.reduceEqDiff] <;> rfl) ?_ ?_ | exact VLe.junk _ | exact VLe.refl rfl | exact VLe.nil_sl _ _ _ | exact VLe.int (by first | rfl | omega | (dsimp only; omega)) | exact VLe.bool rfl | exact VLe.sl rfl (by first | rfl | omega) | exact VLe.cap rfl (by first | rfl | omega) | exact VLe.im rfl rfl | omega | (refine fun id k h => ?_; simp only [hget] at h ⊢; (repeat' (split at h)) <;> first | (cases h; done) | (simp (disch := omega) only [if_pos, if_neg]; exact h)))))
  · exact ⟨Nat.zero_le _, hb0, hrest.symm⟩
  · rintro ⟨k, rest⟩ ⟨hk, hrw, hgo⟩ K hK
    simp only at hk hrw hgo ⊢
    have hrl := hrw.1
    have u1 := nv_len rest
    rw [hrl] at u1
    by_cases hkr : k < pv.length
    · have q5 := decide_eq_true (p := (k : Int) < (pv.length : Int)) (by omega)
      have v1 := wv_get hkr
      have hdr : pv.drop k = pv.getD k 0 :: pv.drop (k + 1) := by
        rw [List.drop_eq_getElem_cons hkr, List.getD_eq_getElem?_getD, List.getElem?_eq_getElem hkr]; rfl
      rw [hdr, restGo] at hgo
      have hcw := hlt k hkr
      have gk := slR_get (z := 1) (m := w + M.length) (ids := ids') (k := k) (by omega)
      have hmem := getD_mem' (ids := ids') (k := k) (by omega)
      have hm2 := hids _ hmem
      have gRk := rows_get (ty := 26) (rs := nR W) (k := k) hI'.nod (by omega) (by rw [nR_len]; omega)
      rw [nR_getD] at gRk
      have hRk := hE1.get (i := k) (by omega)
      generalize pv.getD k 0 = c at *
      have gx := nv_get (r := rest) (j := c) (by omega)
      have xl := hrw.lt (j := c) (by omega)
      have c4 := mSub0_s p (rest.getD c 0) (by omega) (by omega) xl
      have hzl := Nat.mod_lt (0 + p - rest.getD c 0) (y := p) (by omega)
      generalize rest.getD c 0 = x at *
      generalize (0 + p - x) % p = z at *
      generalize W.getD k [] = rk at *
      have hadd := (addTo_s p (w + M.length) nx2 (ids'.getD k 0) z (nx2 + 1) rest rk (by omega) (by omega) hrw hRk hzl (by omega) (by omega) (by omega) (by omega)).toQ
      have hnr := addRw_rw (p := p) (k := z) (by omega) hrl hRk.1
      have hset2 := rows_set (ty := 26) (rs := nR W) (k := k) (r := nv rk) hI'.nod (by omega) (by rw [nR_len]; omega)
      have hH : hset (rowsH 26 ids' (nR W)) (ids'.getD k 0) ⟨26, nv rk, false⟩ = rowsH 26 ids' (nR W) := by
        have : ∀ {l : List (Nat × Blk)} {i : Nat} {b : Blk}, hget l i = some b → hset l i b = l := by
          intro l i b
          induction l with
          | nil => intro h; cases h
          | cons p r ih =>
            obtain ⟨j, q⟩ := p
            intro h
            simp only [hget] at h
            simp only [hset]
            by_cases e : i = j
            · rw [if_pos e] at h ⊢; cases h; rfl
            · rw [if_neg e] at h ⊢; rw [ih h]
        exact this gRk
      have hklr : ∀ id b, hget (rowsH 26 ids' (nR W)) id = some b → id < nx2 + 1 := klr (fun j hj => by have := hids j hj; omega)
      generalize rowsH 26 ids' (nR W) = H at *
      generalize ids'.getD k 0 = idk at *
      (repeat (first | (first | refine DO.nilC (by kernel_rfl) ?_ | refine DO.nil (by kernel_rfl) ?_) | (with_reducible refine SC.condB (by simp (disch := omega) only [go_sem, ↓reduceIte]; rfl) ?_; first | with_reducible refine pickT ?_ | with_reducible refine pickF ?_) | (with_reducible first | apply oz1 | apply oz2 | apply oz3 | apply oz4 | apply oz5 | apply oz6 | apply oz7 | apply oz8 | apply oz9 | apply ozb | apply ozc | apply oze | apply ozf | apply ozg | apply ozh | apply ozi | apply ozj | apply ozk | refine ozd (by decide) ?_) | ((with_reducible apply SC.region); (focus (simp (disch := omega) only [go_sem, ↓reduceIte, Nat.reduceEqDiff, if_pos, if_neg, q5, v1]; rfl))) | (with_reducible refine SC.draw Tab.mixed rfl ?_; (repeat (refine DO.run (by simp (disch := omega) only [go_sem, ↓reduceIte, Nat.reduceEqDiff, Nat.reduceLT, Nat.reduceLeDiff, Nat.reduceAdd, Nat.reduceMul, Nat.reduceSub, reduceCtorEq, Nat.reduceBEq, Int.reduceToNat, Int.reducePow, if_pos, if_neg, q5, v1, t3, List.getElem?_drop]; rfl) ?_)); (first | refine DO.nilC (by kernel_rfl) ?_ | refine DO.nil (by kernel_rfl) ?_))))
      refine SC.drawT 14 (by simp only [List.take_succ_cons, List.take_zero]; rfl) (by simp only [List.drop_succ_cons, List.drop_zero]; rfl) Tab.mixed ?_ (by kernel_rfl) ?_
      · exact klc (show nx2 < nx2 + 1 by omega) (klc (show 0 < nx2 + 1 by omega) (klc (show q < nx2 + 1 by omega) (klc (show o < nx2 + 1 by omega) hklr)))
      (repeat (first | (first | refine DO.nilC (by kernel_rfl) ?_ | refine DO.nil (by kernel_rfl) ?_) | (with_reducible first | apply oz1 | apply oz2 | apply oz3 | apply oz4 | apply oz5 | apply oz6 | apply oz7 | apply oz8 | apply oz9 | apply ozb | apply ozc | apply oze | apply ozf | apply ozg | apply ozh | apply ozi | apply ozj | apply ozk | refine ozd (by decide) ?_) | ((first | apply SO.call | apply DO.call); (iterate 3 (focus (simp (disch := omega) only [go_sem, ↓reduceIte, Nat.reduceEqDiff, if_pos, u1] <;> rfl))); (first | apply SCall.ofX | apply DCall.ofX); (focus (first | assumption)); (focus (simp (disch := omega) only [go_sem] <;> rfl))) | ((with_reducible first | apply SC.condB | apply SC.region | apply SO.run | apply DO.run); (focus (simp (disch := omega) only [go_sem, ↓reduceIte, Nat.reduceEqDiff, reduceCtorEq, if_pos, if_neg, gk, gx] <;> rfl)); (first | refine pickT ?_ | refine pickF ?_ | fail_if_success with_reducible refine pickA ?_)) | ((with_reducible refine SC.draw Tab.mixed ?_ ?_); (focus (first | rfl | simp (disch := omega) only [go_sem, ↓reduceIte, Nat.reduceEqDiff, Nat.reduceLT, Nat.reduceLeDiff, Nat.reduceAdd, Nat.reduceMul, Nat.reduceSub, reduceCtorEq, Nat.reduceBEq, Int.reduceToNat, Int.reducePow, if_pos, if_neg, gk, gRk, gx, g1, u1, List.getElem?_drop]))) | (with_reducible apply SC.ops)))
      have hsub : ∀ id b, hget [(nx2, (⟨26, nv rest, false⟩ : Blk)), (idk, ⟨26, nv rk, false⟩)] id = some b → hget ((nx2, (⟨26, nv rest, false⟩ : Blk)) :: (0, ⟨29, [.sc (.int .u64 p), .sc (.int .i64 w), .im (imR w (nR M)) M.length], false⟩) :: (q, ⟨3, wv pv, false⟩) :: (o, ⟨44, slR 1 (w + M.length) ids', false⟩) :: H) id = some b := by
        intro id b' hb'
        simp only [hget] at hb' ⊢
        by_cases e1 : id = nx2
        · rw [if_pos e1] at hb' ⊢; exact hb'
        · rw [if_neg e1] at hb' ⊢
          by_cases e2 : id = idk
          · rw [if_pos e2] at hb'
            rw [if_neg (by omega), if_neg (by omega), if_neg (by omega), e2, gRk]; exact hb'
          · rw [if_neg e2] at hb'; cases hb'
      have hnew : hsets ((nx2, (⟨26, nv rest, false⟩ : Blk)) :: (0, ⟨29, [.sc (.int .u64 p), .sc (.int .i64 w), .im (imR w (nR M)) M.length], false⟩) :: (q, ⟨3, wv pv, false⟩) :: (o, ⟨44, slR 1 (w + M.length) ids', false⟩) :: H) [(nx2, ⟨26, nv (addRw p rest rk z), false⟩), (idk, ⟨26, nv rk, false⟩)] = (nx2, (⟨26, nv (addRw p rest rk z), false⟩ : Blk)) :: (0, ⟨29, [.sc (.int .u64 p), .sc (.int .i64 w), .im (imR w (nR M)) M.length], false⟩) :: (q, ⟨3, wv pv, false⟩) :: (o, ⟨44, slR 1 (w + M.length) ids', false⟩) :: H := by
        simp only [hsets_cons, hsets_nil, hset_cons]
        rw [if_neg (by omega), if_neg (by omega), if_neg (by omega), if_neg (by omega), hH]
        simp only [hset_cons, if_true]
      have hupd := hget_upd (new := []) (upd := [(nx2, (⟨26, nv (addRw p rest rk z), false⟩ : Blk)), (idk, ⟨26, nv rk, false⟩)]) hsub (fun i => rfl)
      rw [hnew] at hupd
      show SO _ _ _ _ _ _ _
      refine SO.inlQ (by simp (disch := omega) only [go_sem] <;> rfl) Tab.go58 (by simp (disch := omega) only [go_sem, ↓reduceIte, Nat.reduceEqDiff] <;> rfl) (by simp (disch := omega) only [go_sem] <;> rfl) (SInlQ.of hadd hsub ?_)
      rintro x' hp' nx' ⟨rfl, rfl, rfl⟩
      refine ⟨.tu (fun _ h => by cases h), ⟨fun y hy => Only.clo (List.all_eq_true.1 (nv_clo _) y hy), fun y hy => Only.clo (List.all_eq_true.1 (nv_clo _) y hy), trivial⟩, _, hupd, ?_⟩
      (repeat (first | (first | refine DO.nilC (by kernel_rfl) ?_ | refine DO.nil (by kernel_rfl) ?_) | (with_reducible first | apply oz1 | apply oz2 | apply oz3 | apply oz4 | apply oz5 | apply oz6 | apply oz7 | apply oz8 | apply oz9 | apply ozb | apply ozc | apply oze | apply ozf | apply ozg | apply ozh | apply ozi | apply ozj | apply ozk | refine ozd (by decide) ?_) | ((first | apply SO.call | apply DO.call); (iterate 3 (focus (simp (disch := omega) only [go_sem, ↓reduceIte, Nat.reduceEqDiff, Nat.reduceLT, Nat.reduceLeDiff, Nat.reduceAdd, Nat.reduceMul, Nat.reduceSub, reduceCtorEq, Nat.reduceBEq, Int.reduceToNat, Int.reducePow, if_pos, if_neg] <;> rfl))); (first | apply SCall.ofX | apply DCall.ofX); (focus (first | assumption)); (focus (simp (disch := omega) only [go_sem, ↓reduceIte, Nat.reduceEqDiff, Nat.reduceLT, Nat.reduceLeDiff, Nat.reduceAdd, Nat.reduceMul, Nat.reduceSub, reduceCtorEq, Nat.reduceBEq, Int.reduceToNat, Int.reducePow, if_pos, if_neg] <;> rfl))) | ((with_reducible first | apply SC.condB | apply SC.region | apply SO.run | apply DO.run); (focus (simp (disch := omega) only [go_sem, ↓reduceIte, Nat.reduceEqDiff] <;> rfl)); (first | refine pickT ?_ | refine pickF ?_ | fail_if_success with_reducible refine pickA ?_)) | ((with_reducible refine SC.draw Tab.mixed ?_ ?_); (focus (first | rfl | simp (disch := omega) only [go_sem, ↓reduceIte, Nat.reduceEqDiff, Nat.reduceLT, Nat.reduceLeDiff, Nat.reduceAdd, Nat.reduceMul, Nat.reduceSub, reduceCtorEq, Nat.reduceBEq, Int.reduceToNat, Int.reducePow, if_pos, if_neg]))) | (with_reducible apply SC.ops)))
      refine hK _ (k + 1, addRw p rest rk z) ?_ ⟨by simp only; omega, hnr, hgo⟩ (by simp only; omega)
      (refine Le.slots ?_ ?_ ?_ <;> (repeat' (first | (exact fun _ _ h => h) | exact Nat.le_refl _ | exact leSl_nil | refine leSl_cons (by simp (disch := omega) only [go_sem, ↓reduceIte, Nat.reduceEqDiff] <;> rfl) ?_ ?_ | exact VLe.junk _ | exact VLe.refl rfl | exact VLe.nil_sl _ _ _ | exact VLe.int (by first | rfl | omega | (dsimp only; omega)) | exact VLe.bool rfl | exact VLe.sl rfl (by first | rfl | omega) | exact VLe.cap rfl (by first | rfl | omega) | exact VLe.im rfl rfl | omega | (refine fun id k h => ?_; simp only [hget] at h ⊢; (repeat' (split at h)) <;> first | (cases h; done) | (simp (disch := omega) only [if_pos, if_neg]; exact h)))))
    · have q5 := decide_eq_false (p := (k : Int) < (pv.length : Int)) (by omega)
      rw [List.drop_eq_nil_of_le (by omega), restGo] at hgo
      subst hgo
      have v1 := nv_take rest w
      have v2 := nv_clo (rest.take w)
      have v3 := nv_len (rest.take w)
      rw [List.length_take, hrl, Nat.min_eq_left (by omega)] at v3
      have c5 := some_s (r := rest.take w) (w := w) (by rw [List.length_take, hrl]; omega) (by omega)
      cases hz : zeroL (rest.take w) with
      | false =>
        rw [hz] at c5
        (repeat (first | (first | refine DO.nilC (by kernel_rfl) ?_ | refine DO.nil (by kernel_rfl) ?_) | (with_reducible first | apply oz1 | apply oz2 | apply oz3 | apply oz4 | apply oz5 | apply oz6 | apply oz7 | apply oz8 | apply oz9 | apply ozb | apply ozc | apply oze | apply ozf | apply ozg | apply ozh | apply ozi | apply ozj | apply ozk | refine ozd (by decide) ?_) | ((first | apply SO.call | apply DO.call); (iterate 3 (focus (simp (disch := omega) only [go_sem, ↓reduceIte, if_pos, u1, v1, v2, frz_func] <;> rfl))); (first | apply SCall.ofX | apply DCall.ofX); (focus (first | assumption)); (focus (simp (disch := omega) only [go_sem, Bool.not_false] <;> rfl))) | ((with_reducible first | apply SC.condB | apply SC.region | apply SO.run | apply DO.run); (focus (simp (disch := omega) only [go_sem, ↓reduceIte, Nat.reduceEqDiff, reduceCtorEq, if_pos, if_neg, q5] <;> rfl)); (first | refine pickT ?_ | refine pickF ?_ | fail_if_success with_reducible refine pickA ?_)) | ((with_reducible refine SC.draw Tab.mixed ?_ ?_); (focus (first | rfl | simp (disch := omega) only [go_sem, ↓reduceIte, Nat.reduceEqDiff, Nat.reduceLT, Nat.reduceLeDiff, Nat.reduceAdd, Nat.reduceMul, Nat.reduceSub, reduceCtorEq, Nat.reduceBEq, Int.reduceToNat, Int.reducePow, if_pos, if_neg, q5, t3, u1, v1, v2, v3, frz_func, Bool.not_false]))) | (with_reducible apply SC.ops)))
        exact retQ_ret Try.results25 (by simp (disch := omega) only [go_sem, ↓reduceIte, Nat.reduceEqDiff] <;> rfl) (by simp (disch := omega) only [go_sem, ↓reduceIte] <;> rfl) rfl
      | true =>
        rw [hz] at c5
        (repeat (first | (first | refine DO.nilC (by kernel_rfl) ?_ | refine DO.nil (by kernel_rfl) ?_) | (with_reducible first | apply oz1 | apply oz2 | apply oz3 | apply oz4 | apply oz5 | apply oz6 | apply oz7 | apply oz8 | apply oz9 | apply ozb | apply ozc | apply oze | apply ozf | apply ozg | apply ozh | apply ozi | apply ozj | apply ozk | refine ozd (by decide) ?_) | ((first | apply SO.call | apply DO.call); (iterate 3 (focus (simp (disch := omega) only [go_sem, ↓reduceIte, if_pos, u1, v1, v2, frz_func] <;> rfl))); (first | apply SCall.ofX | apply DCall.ofX); (focus (first | assumption)); (focus (simp (disch := omega) only [go_sem, Bool.not_true] <;> rfl))) | ((with_reducible first | apply SC.condB | apply SC.region | apply SO.run | apply DO.run); (focus (simp (disch := omega) only [go_sem, ↓reduceIte, Nat.reduceEqDiff, reduceCtorEq, if_pos, if_neg, q5] <;> rfl)); (first | refine pickT ?_ | refine pickF ?_ | fail_if_success with_reducible refine pickA ?_)) | ((with_reducible refine SC.draw Tab.mixed ?_ ?_); (focus (first | rfl | simp (disch := omega) only [go_sem, ↓reduceIte, Nat.reduceEqDiff, Nat.reduceLT, Nat.reduceLeDiff, Nat.reduceAdd, Nat.reduceMul, Nat.reduceSub, reduceCtorEq, Nat.reduceBEq, Int.reduceToNat, Int.reducePow, if_pos, if_neg, q5, t3, u1, v1, v2, v3, frz_func, Bool.not_true]))) | (with_reducible apply SC.ops)))
        have x1 := nv_clo rest
        have x2 : (nv rest).take (w + M.length) = nv rest := List.take_of_length_le (by omega)
        have hfrz : frz 8 ((nx2 + 1, (⟨26, List.replicate M.length (.sc (.int .u64 0)), false⟩ : Blk)) :: (nx2, ⟨26, nv rest, false⟩) :: (0, ⟨29, [.sc (.int .u64 p), .sc (.int .i64 w), .im (imR w (nR M)) M.length], false⟩) :: (q, ⟨3, wv pv, false⟩) :: (o, ⟨44, slR 1 (w + M.length) ids', false⟩) :: rowsH 26 ids' (nR W)) (.sl nx2 0 (w + M.length) 1 none) = some (.im (nv rest) (w + M.length), [nx2]) := by
          simp (disch := omega) only [go_sem, ↓reduceIte, if_pos, if_neg, x1, x2, u1]
        refine SO.weak (Le.trans (Le.frz (y := .im (nv rest) (w + M.length)) (ids := [nx2]) 81 (show 81 < 100 by omega) hfrz) (Le.less (hp' := [(nx2 + 1, (⟨26, List.replicate M.length (.sc (.int .u64 0)), false⟩ : Blk)), (0, ⟨29, [.sc (.int .u64 p), .sc (.int .i64 w), .im (imR w (nR M)) M.length], false⟩)]) (fz_less fun id b' hb' => ?_) (Nat.le_refl _))) ?_
        · show hget ((nx2 + 1, (⟨26, List.replicate M.length (.sc (.int .u64 0)), false⟩ : Blk)) :: (nx2, ⟨26, nv rest, false⟩) :: (0, ⟨29, [.sc (.int .u64 p), .sc (.int .i64 w), .im (imR w (nR M)) M.length], false⟩) :: (q, ⟨3, wv pv, false⟩) :: (o, ⟨44, slR 1 (w + M.length) ids', false⟩) :: rowsH 26 ids' (nR W)) id = some b' ∧ _
          simp only [hget] at hb' ⊢
          by_cases e1 : id = nx2 + 1
          · rw [if_pos e1] at hb' ⊢; exact ⟨hb', by simp; omega⟩
          · rw [if_neg e1] at hb' ⊢
            by_cases e2 : id = 0
            · rw [if_pos e2] at hb'
              rw [if_neg (by omega), if_pos e2]; exact ⟨hb', by simp; omega⟩
            · rw [if_neg e2] at hb'; cases hb'
        have x3 : ((nv rest).drop w).take M.length = nv (rest.drop w) := by
          rw [nv_drop]; exact List.take_of_length_le (by rw [nv_len, List.length_drop]; omega)
        have x4 : w + M.length - w = M.length := by omega
        have x5 := nv_len (rest.drop w)
        rw [List.length_drop, hrl, x4] at x5
        have x6 : ∀ j, j < M.length → (rest.drop w).getD j 0 < p := fun j hj => by
          have hj2 : j < (rest.drop w).length := by rw [List.length_drop]; omega
          exact hrw.2 _ (List.mem_of_mem_drop (getD_mem hj2))
        have x7 : ∀ j, j < M.length → (nv (rest.drop w))[j]? = some (.sc (.int .u64 ((rest.drop w).getD j 0 : Nat))) := fun j hj => nv_get (by rw [List.length_drop]; omega)
        have xl : (rest.drop w).length = M.length := by rw [List.length_drop]; omega
        generalize rest.drop w = ys at *
        (repeat (first | (first | refine DO.nilC (by kernel_rfl) ?_ | refine DO.nil (by kernel_rfl) ?_) | (with_reducible first | apply oz1 | apply oz2 | apply oz3 | apply oz4 | apply oz5 | apply oz6 | apply oz7 | apply oz8 | apply oz9 | apply ozb | apply ozc | apply oze | apply ozf | apply ozg | apply ozh | apply ozi | apply ozj | apply ozk | refine ozd (by decide) ?_) | ((first | apply SO.call | apply DO.call); (iterate 3 (focus (simp (disch := omega) only [go_sem, ↓reduceIte, Nat.reduceEqDiff, Nat.reduceLT, Nat.reduceLeDiff, Nat.reduceAdd, Nat.reduceMul, Nat.reduceSub, reduceCtorEq, Nat.reduceBEq, Int.reduceToNat, Int.reducePow, if_pos, if_neg, x3, x4] <;> rfl))); (first | apply SCall.ofX | apply DCall.ofX); (focus (first | assumption)); (focus (simp (disch := omega) only [go_sem, ↓reduceIte, Nat.reduceEqDiff, Nat.reduceLT, Nat.reduceLeDiff, Nat.reduceAdd, Nat.reduceMul, Nat.reduceSub, reduceCtorEq, Nat.reduceBEq, Int.reduceToNat, Int.reducePow, if_pos, if_neg, x3, x4] <;> rfl))) | ((with_reducible first | apply SC.condB | apply SC.region | apply SO.run | apply DO.run); (focus (simp (disch := omega) only [go_sem, ↓reduceIte, Nat.reduceEqDiff, if_pos, x3, x4] <;> rfl)); (first | refine pickT ?_ | refine pickF ?_ | fail_if_success with_reducible refine pickA ?_)) | ((with_reducible refine SC.draw Tab.mixed ?_ ?_); (focus (first | rfl | simp (disch := omega) only [go_sem, ↓reduceIte, Nat.reduceEqDiff, Nat.reduceLT, Nat.reduceLeDiff, Nat.reduceAdd, Nat.reduceMul, Nat.reduceSub, reduceCtorEq, Nat.reduceBEq, Int.reduceToNat, Int.reducePow, if_pos, if_neg, x3, x4]))) | (with_reducible apply SC.ops)))
        clear hrw hfrz v1 v2 v3 x2 c5 hz t8 hb0 hr1
        refine SC.loop (fun j : Nat => ⟨[(2, .pt 0 0), (11, .sl (nx2 + 1) 0 M.length 1 (some M.length)), (84, .im (nv ys) M.length), (85, .sc (.int .i64 M.length)), (86, .sc (.int .i64 j))], [(nx2 + 1, ⟨26, nv (negL p M.length ys j), false⟩), (0, ⟨29, [.sc (.int .u64 p), .sc (.int .i64 w), .im (imR w (nR M)) M.length], false⟩)], nx2 + 2, 100⟩) (fun j => j ≤ M.length) (fun j => M.length - j) 0 ?_ ?_ ?_
        · rw [negL_zero, ← nv_repl]
          (refine Le.slots ?_ ?_ ?_ <;> (repeat' (first | (exact fun _ _ h => h) | exact Nat.le_refl _ | exact leSl_nil | refine leSl_cons (by simp (disch := omega) only [go_sem, ↓reduceIte, Nat.reduceEqDiff] <;> rfl) ?_ ?_ | exact VLe.junk _ | exact VLe.refl rfl | exact VLe.nil_sl _ _ _ | exact VLe.int (by first | rfl | omega | (dsimp only; omega)) | exact VLe.bool rfl | exact VLe.sl rfl (by first | rfl | omega) | exact VLe.cap rfl (by first | rfl | omega) | exact VLe.im rfl rfl | omega | (refine fun id k h => ?_; simp only [hget] at h ⊢; (repeat' (split at h)) <;> first | (cases h; done) | (simp (disch := omega) only [if_pos, if_neg]; exact h)))))
        · exact Nat.zero_le _
        · intro j hj K2 hK2
          have y1 := nv_len (negL p M.length ys j)
          rw [negL_len xl hj] at y1
          by_cases hjn : j < M.length
          · have q6 := decide_eq_true (p := (j : Int) < (M.length : Int)) (by omega)
            have g7 := x7 j hjn
            have c7 := mSub0_s p (ys.getD j 0) (by omega) (by omega) (x6 j hjn)
            have y3 := nv_set (negL p M.length ys j) j ((0 + p - ys.getD j 0) % p)
            rw [negL_set xl hjn] at y3
            generalize (0 + p - ys.getD j 0) % p = z at *
            generalize ys.getD j 0 = yy at *
            (repeat (first | (first | refine DO.nilC (by kernel_rfl) ?_ | refine DO.nil (by kernel_rfl) ?_) | (with_reducible first | apply oz1 | apply oz2 | apply oz3 | apply oz4 | apply oz5 | apply oz6 | apply oz7 | apply oz8 | apply oz9 | apply ozb | apply ozc | apply oze | apply ozf | apply ozg | apply ozh | apply ozi | apply ozj | apply ozk | refine ozd (by decide) ?_) | ((first | apply SO.call | apply DO.call); (iterate 3 (focus (simp (disch := omega) only [go_sem, ↓reduceIte, Nat.reduceEqDiff] <;> rfl))); (first | apply SCall.ofX | apply DCall.ofX); (focus (first | assumption)); (focus (simp (disch := omega) only [go_sem] <;> rfl))) | ((with_reducible first | apply SC.condB | apply SC.region | apply SO.run | apply DO.run); (focus (simp (disch := omega) only [go_sem, ↓reduceIte, Nat.reduceEqDiff, reduceCtorEq, if_pos, q6, g7, x5, y1, y3, List.getElem?_drop] <;> rfl)); (first | refine pickT ?_ | refine pickF ?_ | fail_if_success with_reducible refine pickA ?_)) | ((with_reducible refine SC.draw Tab.mixed ?_ ?_); (focus (first | rfl | simp (disch := omega) only [go_sem, ↓reduceIte, Nat.reduceEqDiff, Nat.reduceLT, Nat.reduceLeDiff, Nat.reduceAdd, Nat.reduceMul, Nat.reduceSub, reduceCtorEq, Nat.reduceBEq, Int.reduceToNat, Int.reducePow, if_pos, if_neg, q6, g7, x5, y1, y3, List.getElem?_drop]))) | (with_reducible apply SC.ops)))
            refine hK2 _ (j + 1) ?_ (by omega) (by omega)
            (refine Le.slots ?_ ?_ ?_ <;> (repeat' (first | (exact fun _ _ h => h) | exact Nat.le_refl _ | exact leSl_nil | refine leSl_cons (by simp (disch := omega) only [go_sem, ↓reduceIte, Nat.reduceEqDiff] <;> rfl) ?_ ?_ | exact VLe.junk _ | exact VLe.refl rfl | exact VLe.nil_sl _ _ _ | exact VLe.int (by first | rfl | omega | (dsimp only; omega)) | exact VLe.bool rfl | exact VLe.sl rfl (by first | rfl | omega) | exact VLe.cap rfl (by first | rfl | omega) | exact VLe.im rfl rfl | omega | (refine fun id k h => ?_; simp only [hget] at h ⊢; (repeat' (split at h)) <;> first | (cases h; done) | (simp (disch := omega) only [if_pos, if_neg]; exact h)))))
          · have q6 := decide_eq_false (p := (j : Int) < (M.length : Int)) (by omega)
            have hjm : j = M.length := by omega
            subst hjm
            rw [negL_end xl] at y1 ⊢
            have y5 := nv_clo (ys.map fun y => (0 + p - y) % p)
            have y6 : (nv (ys.map fun y => (0 + p - y) % p)).take M.length = nv (ys.map fun y => (0 + p - y) % p) := List.take_of_length_le (by omega)
            generalize (ys.map fun y => (0 + p - y) % p) = xs at *
            (repeat (first | (first | refine DO.nilC (by kernel_rfl) ?_ | refine DO.nil (by kernel_rfl) ?_) | (with_reducible first | apply oz1 | apply oz2 | apply oz3 | apply oz4 | apply oz5 | apply oz6 | apply oz7 | apply oz8 | apply oz9 | apply ozb | apply ozc | apply oze | apply ozf | apply ozg | apply ozh | apply ozi | apply ozj | apply ozk | refine ozd (by decide) ?_) | ((first | apply SO.call | apply DO.call); (iterate 3 (focus (simp (disch := omega) only [go_sem, ↓reduceIte, Nat.reduceEqDiff, Nat.reduceLT, Nat.reduceLeDiff, Nat.reduceAdd, Nat.reduceMul, Nat.reduceSub, reduceCtorEq, Nat.reduceBEq, Int.reduceToNat, Int.reducePow, if_pos, if_neg, q6] <;> rfl))); (first | apply SCall.ofX | apply DCall.ofX); (focus (first | assumption)); (focus (simp (disch := omega) only [go_sem, ↓reduceIte, Nat.reduceEqDiff, Nat.reduceLT, Nat.reduceLeDiff, Nat.reduceAdd, Nat.reduceMul, Nat.reduceSub, reduceCtorEq, Nat.reduceBEq, Int.reduceToNat, Int.reducePow, if_pos, if_neg, q6] <;> rfl))) | ((with_reducible first | apply SC.condB | apply SC.region | apply SO.run | apply DO.run); (focus (simp (disch := omega) only [go_sem, ↓reduceIte, Nat.reduceEqDiff, Nat.reduceLT, q6] <;> rfl)); (first | refine pickT ?_ | refine pickF ?_ | fail_if_success with_reducible refine pickA ?_)) | ((with_reducible refine SC.draw Tab.mixed ?_ ?_); (focus (first | rfl | simp (disch := omega) only [go_sem, ↓reduceIte, Nat.reduceEqDiff, Nat.reduceLT, Nat.reduceLeDiff, Nat.reduceAdd, Nat.reduceMul, Nat.reduceSub, reduceCtorEq, Nat.reduceBEq, Int.reduceToNat, Int.reducePow, if_pos, if_neg, q6]))) | (with_reducible apply SC.ops)))
            exact retQ_ret Try.results25 (by simp (disch := omega) only [go_sem, ↓reduceIte, Nat.reduceEqDiff] <;> rfl) (by simp (disch := omega) only [go_sem, ↓reduceIte, if_pos, y1, y5, y6] <;> rfl) rfl
end Go.Proofs.Ytpbomhmflllemaa
