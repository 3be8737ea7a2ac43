/- Texts joined: Rl Rm Rn Ro Rp Rq Rr. -/
import Derived.Test.YtfhcmibgpddggaaZc
import Derived.Test.YtfhcmibgpddggaaZf
import Derived.Test.YtfhcmibgpddggaaZk
set_option linter.all false
open Nat renaming reduceEqDiff → zn1, reduceLT → zn2, reduceLeDiff → zn3, reduceAdd → zn4, reduceMul → zn5, reduceSub → zn6, reduceBEq → zn7
open Int renaming reduceToNat → zi1, reducePow → zi2
namespace Go.Proofs.Ytfhcmibgpddggaa
open Go.RowKit
set_option maxHeartbeats 4000000 in
theorem rnew_s (h w nx : Nat) (hn : h ≤ 1000000) (hw : w ≤ 1000000) : InlQ Try.prog 42 [.sc (.int .i64 h), .sc (.int .i64 w)] [] nx (MatQ w (zeroL h w) nx) := by
  have hzl : (zeroL h w).length = h := by simp [zeroL]
  refine InlQ.run Try.func42 rfl Try.ntmps42 (by simp) (by simp (disch := omega) only [go_sem, zn4]; rfl) fun B hB => ?_
  (repeat (first | refine DO.nilF (fun i => i + 1 - nx) (by simp (disch := omega) only [go_sem, ↓reduceIte, zn1, zn2, zn3, zn4, zn5, zn6, reduceCtorEq, zn7, zi1, zi2, if_pos, if_neg, List.map_cons, List.map_nil, Option.map_some, Option.map_none, Nat.add_sub_cancel_left, Nat.sub_eq_zero_of_le, Nat.add_assoc, zn4] <;> rfl) (by kernel_rfl) ?_ | (with_reducible first | apply oz1 | apply oz2 | apply oz3 | apply oz4 | apply oz5 | apply oz6 | apply oz7 | apply oz8 | apply oz9 | apply ozb | apply ozc | apply oze | apply ozf | apply ozg | apply ozh | apply ozi | apply ozj | apply ozk | refine ozd (by decide) ?_) | ((first | apply SO.call | apply DO.call); (iterate 3 (focus (simp (disch := omega) only [go_sem, ↓reduceIte, zn1, zn2, zn3, zn4, zn5, zn6, reduceCtorEq, zn7, zi1, zi2, if_pos, if_neg] <;> rfl))); (first | apply SCall.ofX | apply DCall.ofX); (focus (first | assumption)); (focus (simp (disch := omega) only [go_sem, ↓reduceIte, zn1, zn2, zn3, zn4, zn5, zn6, reduceCtorEq, zn7, zi1, zi2, if_pos, if_neg] <;> rfl))) | ((with_reducible first | apply SC.condB | apply SC.region | apply SO.run | apply DO.run); (focus (simp (disch := omega) only [go_sem, ↓reduceIte, zn3] <;> rfl)); (first | refine pickT ?_ | refine pickF ?_ | fail_if_success with_reducible refine pickA ?_)) | ((with_reducible refine SC.draw Tab.mixed ?_ ?_); (focus (first | rfl | simp (disch := omega) only [go_sem, ↓reduceIte, zn1, zn2, zn3, zn4, zn5, zn6, reduceCtorEq, zn7, zi1, zi2, if_pos, if_neg]))) | (with_reducible apply SC.ops)))
  refine SC.loop (fun x : Nat × List Nat × Nat × Nat => ⟨[(0, .sc (.int .i64 h)), (1, .sc (.int .i64 w)), (4, .pt nx 0), (5, .sl x.2.2.1 0 x.1 1 none), (6, .sc (.int .i64 x.1))], (nx, ⟨29, [.sc (.int .i64 0), .sc (.int .i64 0), .sc (.slice none 0 0)], false⟩) :: (x.2.2.1, ⟨72, slR 2 w x.2.1, false⟩) :: rowsH 54 x.2.1 (rI (zeroL x.1 w)), x.2.2.2, 22⟩)
    (fun x => x.1 ≤ h ∧ RowsOk x.2.2.1 x.2.1 x.1 nx x.2.2.2 ∧ nx ∉ x.2.1 ∧ nx < x.2.2.1) (fun x => h - x.1) (0, [], nx + 1, nx + 2) ?_ ?_ ?_
  · (refine Le.slots ?_ ?_ ?_ <;> (repeat' (first | (exact fun _ _ h => h) | exact Nat.le_refl _ | exact leSl_nil | refine leSl_cons (by simp (disch := omega) only [go_sem, ↓reduceIte, zn1, reduceCtorEq] <;> rfl) ?_ ?_ | exact VLe.junk _ | exact VLe.refl rfl | exact VLe.nil_sl _ _ _ | exact VLe.int (by first | rfl | omega | (dsimp only; omega)) | exact VLe.bool rfl | exact VLe.sl rfl (by first | rfl | omega) | exact VLe.cap rfl (by first | rfl | omega) | exact VLe.im rfl rfl | omega | (refine fun id k h => ?_; simp only [hget] at h ⊢; (repeat' (split at h)) <;> first | (cases h; done) | (simp (disch := omega) only [if_pos, if_neg]; exact h)))))
  · exact ⟨Nat.zero_le _, ⟨rfl, List.nodup_nil, by simp, by simp only; omega, by simp⟩, by simp, by simp only; omega⟩
  · rintro ⟨i, ids, o, m⟩ ⟨hi, hR, hnx, hno⟩ K hK
    simp only at hi hR hnx hno ⊢
    have hlt : ∀ j ∈ ids, j < m := fun j hj => (hR.lt j hj).2
    by_cases hc : i < h
    · have q1 := decide_eq_true (p := (i : Int) < (h : Int)) (by omega)
      have g1 := slR_len 2 w ids
      rw [hR.len] at g1
      have ht : (slR 2 w ids).take i = slR 2 w ids := List.take_of_length_le (by omega)
      have g2 : (slR 2 w ids).all V.one = true := by
        rw [List.all_eq_true]; intro x hx; obtain ⟨n, _, rfl⟩ := List.mem_map.1 hx; rfl
      have g3 := rows_del (ty := 54) (rs := rI (zeroL i w)) (i := o) (ids := ids) hR.o2
      have ho := hR.o1
      have g4 := slR_len 2 w ids
      (repeat (first | refine DO.nilF (fun i => i + 1 - nx) (by simp (disch := omega) only [go_sem, ↓reduceIte, zn1, zn2, zn3, zn4, zn5, zn6, reduceCtorEq, zn7, zi1, zi2, if_pos, if_neg, List.map_cons, List.map_nil, Option.map_some, Option.map_none, Nat.add_sub_cancel_left, Nat.sub_eq_zero_of_le, Nat.add_assoc, zn4] <;> rfl) (by kernel_rfl) ?_ | (with_reducible first | apply oz1 | apply oz2 | apply oz3 | apply oz4 | apply oz5 | apply oz6 | apply oz7 | apply oz8 | apply oz9 | apply ozb | apply ozc | apply oze | apply ozf | apply ozg | apply ozh | apply ozi | apply ozj | apply ozk | refine ozd (by decide) ?_) | ((first | apply SO.call | apply DO.call); (iterate 3 (focus (simp (disch := omega) only [go_sem, ↓reduceIte, zn1, zn2, zn3, zn4, zn5, zn6, reduceCtorEq, zn7, zi1, zi2, if_pos, if_neg, q1, g1, g2, g3, ht] <;> rfl))); (first | apply SCall.ofX | apply DCall.ofX); (focus (first | assumption)); (focus (simp (disch := omega) only [go_sem, ↓reduceIte, zn1, zn2, zn3, zn4, zn5, zn6, reduceCtorEq, zn7, zi1, zi2, if_pos, if_neg, q1, g1, g2, g3, ht] <;> rfl))) | ((with_reducible first | apply SC.condB | apply SC.region | apply SO.run | apply DO.run); (focus (simp (disch := omega) only [go_sem, ↓reduceIte, zn1, zn3, zn4, reduceCtorEq, if_pos, if_neg, q1, g1, g3, ht] <;> rfl)); (first | refine pickT ?_ | refine pickF ?_ | fail_if_success with_reducible refine pickA ?_)) | ((with_reducible refine SC.draw Tab.mixed ?_ ?_); (focus (first | rfl | simp (disch := omega) only [go_sem, ↓reduceIte, zn1, zn2, zn3, zn4, zn5, zn6, reduceCtorEq, zn7, zi1, zi2, if_pos, if_neg, q1, g1, g2, g3, ht]))) | (with_reducible apply SC.ops)))
      have hne : ∀ j ∈ ids, j ≠ nx := fun j hj e => hnx (e ▸ hj)
      refine hK _ (i + 1, ids ++ [m], m + 1 + 1, m + 1 + 1 + 1) ?_ ⟨by simp only; omega, ?_, ?_, by simp only; omega⟩ (by simp only; omega)
      · dsimp only
        refine Le.rowsTo [(nx, _)] ⟨nx, hB, by omega⟩ (fun j k hj => ?_) ?_ (fun k hk1 hk2 => ?_) ?_
        · simp only [hget] at hj
          split at hj
          · rename_i e
            cases hj; subst e
            refine ⟨rfl, ?_⟩
            simp only [hget]
            rw [if_neg (by omega), if_neg (by omega), if_neg (by omega), if_pos trivial]
          · cases hj
        · refine ⟨_, by simp only [hget]; rw [if_pos trivial], ?_⟩
          have := cellsTo (z := 2) (m := w) (n := m) (nx := m + 1 + 1 + 1) (cap := some w) (ids := ids) (rest := []) (fun j hj => by have := hlt j hj; omega) (by omega) (fun x hx => by cases hx)
          simpa using this
        · rw [rI_len, zeroL_len] at hk2
          rw [rI_getD, zeroL_get hk2]
          rcases ids_snoc hk1 with ⟨g, e⟩ | ⟨g, e⟩
          · have hm := getD_mem' g
            have h1 := hlt _ hm
            have h2 := hne _ hm
            have := rows_get (ty := 54) (rs := rI (zeroL i w)) (k := k) hR.nod g (by rw [rI_len, zeroL_len, hR.len])
            rw [rI_getD, zeroL_get (by rw [hR.len] at g; exact g)] at this
            rw [e]
            exact ⟨_, by simp only [hget]; rw [if_neg (by omega), if_neg (by omega), if_neg (by omega), if_neg h2, this], cloTo (clS_of (ivR_clo _))⟩
          · rw [e]
            exact ⟨zer w, by simp only [hget]; rw [if_neg (by omega), if_neg (by omega), if_pos trivial]; rfl, zer_map w⟩
        · (repeat' (first | exact trivial | refine mapSl_cons (by simp (disch := omega) only [go_sem, ↓reduceIte, zn1, reduceCtorEq] <;> rfl) ?_ ?_ | exact VMap.junk _ | exact VMap.sc _ | exact VMap.clo rfl | exact VMap.sl rfl (by omega) | exact VMap.cap rfl (by omega) | exact VMap.pt rfl (by omega) | exact VMap.nil_sl _ _ _ | exact VMap.int (by first | rfl | omega | (dsimp only; omega))))
      · refine ⟨by simp [hR.len], ?_, fun j hj => ?_, by simp only; omega, ?_⟩
        · rw [List.nodup_append]
          exact ⟨hR.nod, by simp, fun a ha b hb => by simp at hb; subst hb; have := hlt a ha; omega⟩
        · rcases List.mem_append.1 hj with g | g
          · have := hR.lt j g; simp only; omega
          · simp at g; simp only; omega
        · intro h
          rcases List.mem_append.1 h with g | g
          · have := hlt _ g; simp only at this; omega
          · have := List.mem_singleton.1 g; simp only at this; omega
      · intro h
        rcases List.mem_append.1 h with g | g
        · exact hnx g
        · simp at g; omega
    · have q1 := decide_eq_false (p := (i : Int) < (h : Int)) (by omega)
      have hin : i = h := by omega
      subst hin
      (repeat (first | refine DO.nilF (fun i => i + 1 - nx) (by simp (disch := omega) only [go_sem, ↓reduceIte, zn1, zn2, zn3, zn4, zn5, zn6, reduceCtorEq, zn7, zi1, zi2, if_pos, if_neg, List.map_cons, List.map_nil, Option.map_some, Option.map_none, Nat.add_sub_cancel_left, Nat.sub_eq_zero_of_le, Nat.add_assoc, zn4] <;> rfl) (by kernel_rfl) ?_ | (with_reducible first | apply oz1 | apply oz2 | apply oz3 | apply oz4 | apply oz5 | apply oz6 | apply oz7 | apply oz8 | apply oz9 | apply ozb | apply ozc | apply oze | apply ozf | apply ozg | apply ozh | apply ozi | apply ozj | apply ozk | refine ozd (by decide) ?_) | ((first | apply SO.call | apply DO.call); (iterate 3 (focus (simp (disch := omega) only [go_sem, ↓reduceIte, zn1, zn2, zn3, zn4, zn5, zn6, reduceCtorEq, zn7, zi1, zi2, if_pos, if_neg, q1] <;> rfl))); (first | apply SCall.ofX | apply DCall.ofX); (focus (first | assumption)); (focus (simp (disch := omega) only [go_sem, ↓reduceIte, zn1, zn2, zn3, zn4, zn5, zn6, reduceCtorEq, zn7, zi1, zi2, if_pos, if_neg, q1] <;> rfl))) | ((with_reducible first | apply SC.condB | apply SC.region | apply SO.run | apply DO.run); (focus (simp (disch := omega) only [go_sem, ↓reduceIte, zn1, zn2, zn3, zn4, reduceCtorEq, q1] <;> rfl)); (first | refine pickT ?_ | refine pickF ?_ | fail_if_success with_reducible refine pickA ?_)) | ((with_reducible refine SC.draw Tab.mixed ?_ ?_); (focus (first | rfl | simp (disch := omega) only [go_sem, ↓reduceIte, zn1, zn2, zn3, zn4, zn5, zn6, reduceCtorEq, zn7, zi1, zi2, if_pos, if_neg, q1]))) | (with_reducible apply SC.ops)))
      refine retIQ_ret (.ag [.sc (.int .i64 i), .sc (.int .i64 w), .sl o 0 i 1 none]) ((o, ⟨72, slR 2 w ids, false⟩) :: rowsH 54 ids (rI (zeroL i w))) m Try.results42 (by simp (disch := omega) only [go_sem, ↓reduceIte, zn1, zn3, zn4, reduceCtorEq]; rfl) ⟨o, ids, by rw [hzl]; exact hR, by rw [hzl], rfl⟩ ?_
      have ho := hR.o1
      refine Le.rowsDown [] pre0 ⟨nx, hB, by omega⟩ (by omega) hlt (rI_clo _) (less_new (fun id k hk => hk) (fun id k hk => ?_)) ?_
      · rcases inR_rows (fun i hi => hi) id k hk with e | e
        · omega
        · exact fun e2 => hnx (e2 ▸ e)
      · refine mapSl_cons (x := .ag [.sc (.int .i64 i), .sc (.int .i64 w), .sl o 0 i 1 none]) (by simp (disch := omega) only [go_sem, ↓reduceIte]) (VMap.ag rfl fun j x y hx hy => ?_) trivial
        match j, hx, hy with
        | 0, hx, hy => cases hx; cases hy; exact VMap.sc _
        | 1, hx, hy => cases hx; cases hy; exact VMap.sc _
        | 2, hx, hy => cases hx; cases hy; exact VMap.cap rfl (by omega)
end Go.Proofs.Ytfhcmibgpddggaa
namespace Go.Proofs.Ytfhcmibgpddggaa
open Go.RowKit
set_option maxHeartbeats 8000000 in
set_option maxRecDepth 8000 in
theorem rident_s (n : Nat) (hn : n ≤ 1000000) : Spec Try.prog 17 [.sc (.int .i64 n)] (mat n (idL n)) := by
  have c0 := rnew_s n n 1 hn hn
  have c1 := of_i 1 (by omega) (by omega)
  unfold iv sv at c1
  refine Spec.run Try.func17 rfl Try.ntmps17 (by simp) (by simp (disch := omega) only [go_sem]; rfl) fun B hB => ?_
  (repeat (first | refine DO.nilF (fun i => i + 1 - nx) (by simp (disch := omega) only [go_sem, ↓reduceIte, zn1, zn2, zn3, zn4, zn5, zn6, reduceCtorEq, zn7, zi1, zi2, if_pos, if_neg, List.map_cons, List.map_nil, Option.map_some, Option.map_none, Nat.add_sub_cancel_left, Nat.sub_eq_zero_of_le, Nat.add_assoc, zn4] <;> rfl) (by kernel_rfl) ?_ | (with_reducible first | apply oz1 | apply oz2 | apply oz3 | apply oz4 | apply oz5 | apply oz6 | apply oz7 | apply oz8 | apply oz9 | apply ozb | apply ozc | apply oze | apply ozf | apply ozg | apply ozh | apply ozi | apply ozj | apply ozk | refine ozd (by decide) ?_) | ((first | apply SO.call | apply DO.call); (iterate 3 (focus (simp (disch := omega) only [go_sem, ↓reduceIte, zn1] <;> rfl))); (first | apply SCall.ofX | apply DCall.ofX); (focus (first | assumption)); (focus (simp (disch := omega) only [go_sem, ↓reduceIte, zn1, zn2, zn3, zn4, zn5, zn6, reduceCtorEq, zn7, zi1, zi2, if_pos, if_neg] <;> rfl))) | ((with_reducible first | apply SC.condB | apply SC.region | apply SO.run | apply DO.run); (focus (simp (disch := omega) only [go_sem, ↓reduceIte, reduceCtorEq] <;> rfl)); (first | refine pickT ?_ | refine pickF ?_ | fail_if_success with_reducible refine pickA ?_)) | ((with_reducible refine SC.draw Tab.mixed ?_ ?_); (focus (first | rfl | simp (disch := omega) only [go_sem, ↓reduceIte, zn1, zn2, zn3, zn4, zn5, zn6, reduceCtorEq, zn7, zi1, zi2, if_pos, if_neg]))) | (with_reducible apply SC.ops)))
  refine SO.inlQ (by simp (disch := omega) only [go_sem] <;> rfl) Tab.go42 (by simp (disch := omega) only [go_sem, ↓reduceIte, zn1] <;> rfl) (by simp (disch := omega) only [go_sem] <;> rfl) (SInlQ.newR c0 ?_ ?_ ?_)
  · exact klc (by omega) kln
  · exact fun x hp' nx' h => matQ_new h
  rintro x hp' nx ⟨o, ids, hR, rfl, rfl⟩
  have ho := hR.o1
  rw [zeroL_len] at hR ⊢
  rw [mkM_zero]
  (repeat (first | refine DO.nilF (fun i => i + 1 - nx) (by simp (disch := omega) only [go_sem, ↓reduceIte, zn1, zn2, zn3, zn4, zn5, zn6, reduceCtorEq, zn7, zi1, zi2, if_pos, if_neg, List.map_cons, List.map_nil, Option.map_some, Option.map_none, Nat.add_sub_cancel_left, Nat.sub_eq_zero_of_le, Nat.add_assoc, zn4] <;> rfl) (by kernel_rfl) ?_ | (with_reducible first | apply oz1 | apply oz2 | apply oz3 | apply oz4 | apply oz5 | apply oz6 | apply oz7 | apply oz8 | apply oz9 | apply ozb | apply ozc | apply oze | apply ozf | apply ozg | apply ozh | apply ozi | apply ozj | apply ozk | refine ozd (by decide) ?_) | ((first | apply SO.call | apply DO.call); (iterate 3 (focus (simp (disch := omega) only [go_sem, ↓reduceIte, zn1, zn2, zn3, zn4, zn5, zn6, reduceCtorEq, zn7, zi1, zi2, if_pos, if_neg] <;> rfl))); (first | apply SCall.ofX | apply DCall.ofX); (focus (first | assumption)); (focus (simp (disch := omega) only [go_sem, ↓reduceIte, zn1, zn2, zn3, zn4, zn5, zn6, reduceCtorEq, zn7, zi1, zi2, if_pos, if_neg] <;> rfl))) | ((with_reducible first | apply SC.condB | apply SC.region | apply SO.run | apply DO.run); (focus (simp (disch := omega) only [go_sem, ↓reduceIte, zn1, zn3, zn4] <;> rfl)); (first | refine pickT ?_ | refine pickF ?_ | fail_if_success with_reducible refine pickA ?_)) | ((with_reducible refine SC.draw Tab.mixed ?_ ?_); (focus (first | rfl | simp (disch := omega) only [go_sem, ↓reduceIte, zn1, zn2, zn3, zn4, zn5, zn6, reduceCtorEq, zn7, zi1, zi2, if_pos, if_neg]))) | (with_reducible apply SC.ops)))
  have e0 : mkM n n (fun _ _ => 0) = mkM n n (fun r c => if r = c ∧ r < 0 then 1 else 0) := mkM_congr fun r c _ _ => by rw [if_neg (by omega)]
  rw [e0]
  refine SC.loop (fun i : Nat => ⟨[(0, .sc (.int .i64 n)), (2, .pt 0 0), (3, .pt nx 0), (4, .sc (.int .i64 i))], (nx, ⟨29, [.sc (.int .i64 n), .sc (.int .i64 n), .sl o 0 n 1 none], false⟩) :: (0, ⟨29, [.sc (.int .i64 0), .sc (.int .i64 0), .sc (.slice none 0 0)], false⟩) :: (o, ⟨72, slR 2 n ids, false⟩) :: rowsH 54 ids (rI (mkM n n (fun r c => if r = c ∧ r < i then 1 else 0))), nx + 1, 22⟩)
    (fun i => i ≤ n) (fun i => n - i) 0 ?_ ?_ ?_
  · (refine Le.slots ?_ ?_ ?_ <;> (repeat' (first | (exact fun _ _ h => h) | exact Nat.le_refl _ | exact leSl_nil | refine leSl_cons (by simp (disch := omega) only [go_sem, ↓reduceIte, zn1, reduceCtorEq] <;> rfl) ?_ ?_ | exact VLe.junk _ | exact VLe.refl rfl | exact VLe.nil_sl _ _ _ | exact VLe.int (by first | rfl | omega | (dsimp only; omega)) | exact VLe.bool rfl | exact VLe.sl rfl (by first | rfl | omega) | exact VLe.cap rfl (by first | rfl | omega) | exact VLe.im rfl rfl | omega | (refine fun id k h => ?_; simp only [hget] at h ⊢; (repeat' (split at h)) <;> first | (cases h; done) | (simp (disch := omega) only [if_pos, if_neg]; exact h)))))
  · exact Nat.zero_le _
  · intro i hi K hK
    have hidl := hR.len
    have g1 := slR_len 2 n ids
    rw [hidl] at g1
    by_cases hc : i < n
    · have q1 := decide_eq_true (p := (i : Int) < (n : Int)) (by omega)
      have gi := slR_get (z := 2) (m := n) (ids := ids) (k := i) (by omega)
      obtain ⟨gR, gl, gd, gs, hrs⟩ := cellF (ty := 54) (f := fun r c => if r = c ∧ r < i then (1 : Int) else 0) (z := 1) (j := i) hR.nod hidl hc hc
      have e1 : mkM n n (fun r c => if r = i ∧ c = i then (1 : Int) else if r = c ∧ r < i then 1 else 0) = mkM n n (fun r c => if r = c ∧ r < i + 1 then 1 else 0) := mkM_congr fun r c _ _ => by
        by_cases e : r = i ∧ c = i
        · rw [if_pos e, if_pos (by omega)]
        · rw [if_neg e]
          by_cases e2 : r = c ∧ r < i
          · rw [if_pos e2, if_pos (by omega)]
          · rw [if_neg e2, if_neg (by omega)]
      rw [e1] at hrs
      have hkl := klB_rows (ty := 54) (rs := rI (mkM n n fun r c => if r = c ∧ r < i then (1 : Int) else 0)) (n := nx + 1) (fun j hj => by have := hR.lt j hj; omega)
      have hmem := getD_mem' (ids := ids) (k := i) (by omega)
      have hidk := hR.lt _ hmem
      have hne : ids.getD i 0 ≠ o := fun e => hR.o2 (by rw [← e]; exact hmem)
      generalize hH : rowsH 54 ids (rI (mkM n n fun r c => if r = c ∧ r < i then (1 : Int) else 0)) = H at *
      generalize mkR n (fun c => if i = c ∧ i < i then (1 : Int) else 0) = row at *
      generalize ids.getD i 0 = idk at *
      unfold ivC sv at gs
      have g2 : i * 2 < (ivR row).length := by omega
      (repeat (first | refine DO.nilF (fun i => i + 1 - nx) (by simp (disch := omega) only [go_sem, List.map_cons, List.map_nil, Option.map_some, Option.map_none, Nat.add_sub_cancel_left, Nat.sub_eq_zero_of_le] <;> rfl) (by kernel_rfl) ?_ | (with_reducible first | apply oz1 | apply oz2 | apply oz3 | apply oz4 | apply oz5 | apply oz6 | apply oz7 | apply oz8 | apply oz9 | apply ozb | apply ozc | apply oze | apply ozf | apply ozg | apply ozh | apply ozi | apply ozj | apply ozk | refine ozd (by decide) ?_) | ((first | apply SO.call | apply DO.call); (iterate 3 (focus (simp (disch := omega) only [go_sem] <;> rfl))); (first | apply SCall.ofX | apply DCall.ofX); (focus (first | assumption)); (focus (simp (disch := omega) only [go_sem] <;> rfl))) | ((with_reducible first | apply SC.condB | apply SC.region | apply SO.run | apply DO.run); (focus (simp (disch := omega) only [go_sem, ↓reduceIte, zn1, zn4, reduceCtorEq, if_pos, if_neg, q1, gi, gR, gl, gs, hrs] <;> rfl)); (first | refine pickT ?_ | refine pickF ?_ | fail_if_success with_reducible refine pickA ?_)) | ((with_reducible refine SC.draw Tab.mixed ?_ ?_); (focus (first | rfl | simp (disch := omega) only [go_sem, ↓reduceIte, if_pos, hkl]))) | (with_reducible apply SC.ops)))
      refine hK _ (i + 1) ?_ (by omega) (by omega)
      (refine Le.slots ?_ ?_ ?_ <;> (repeat' (first | (exact fun _ _ h => h) | exact Nat.le_refl _ | exact leSl_nil | refine leSl_cons (by simp (disch := omega) only [go_sem, ↓reduceIte, zn1, reduceCtorEq] <;> rfl) ?_ ?_ | exact VLe.junk _ | exact VLe.refl rfl | exact VLe.nil_sl _ _ _ | exact VLe.int (by first | rfl | omega | (dsimp only; omega)) | exact VLe.bool rfl | exact VLe.sl rfl (by first | rfl | omega) | exact VLe.cap rfl (by first | rfl | omega) | exact VLe.im rfl rfl | omega | (refine fun id k h => ?_; simp only [hget] at h ⊢; (repeat' (split at h)) <;> first | (cases h; done) | (simp (disch := omega) only [if_pos, if_neg]; exact h)))))
    · have q1 := decide_eq_false (p := (i : Int) < (n : Int)) (by omega)
      have hin : i = n := by omega
      subst hin
      have e1 : mkM i i (fun r c => if r = c ∧ r < i then (1 : Int) else 0) = idL i := mkM_congr fun r c hr _ => by
        by_cases e : r = c
        · rw [if_pos ⟨e, hr⟩, if_pos e]
        · rw [if_neg (fun h => e h.1), if_neg e]
      rw [e1]
      have hA : MI i i 1 (idL i) := mk_mi fun r c _ _ => fits01
      have hAl := hA.len
      by_cases h0 : i = 0
      · subst h0
        have hids : ids = [] := List.eq_nil_of_length_eq_zero (by omega)
        subst hids
        (repeat (first | refine DO.nilF (fun i => i + 1 - nx) (by simp (disch := omega) only [go_sem, ↓reduceIte, zn1, zn2, zn3, zn4, zn5, zn6, reduceCtorEq, zn7, zi1, zi2, if_pos, if_neg, List.map_cons, List.map_nil, Option.map_some, Option.map_none, Nat.add_sub_cancel_left, Nat.sub_eq_zero_of_le, Nat.add_assoc, zn4] <;> rfl) (by kernel_rfl) ?_ | (with_reducible refine SC.condB (by simp (disch := omega) only [go_sem, ↓reduceIte]; rfl) ?_; first | with_reducible refine pickT ?_ | with_reducible refine pickF ?_) | (with_reducible first | apply oz1 | apply oz2 | apply oz3 | apply oz4 | apply oz5 | apply oz6 | apply oz7 | apply oz8 | apply oz9 | apply ozb | apply ozc | apply oze | apply ozf | apply ozg | apply ozh | apply ozi | apply ozj | apply ozk | refine ozd (by decide) ?_) | ((with_reducible apply SC.region); (focus (simp (disch := omega) only [go_sem, ↓reduceIte, zn1, zn2, zn3, zn4, reduceCtorEq, if_neg, q1]; rfl))) | (with_reducible refine SC.draw Tab.mixed rfl ?_; (repeat (refine DO.run (by simp (disch := omega) only [go_sem, ↓reduceIte, zn1, zn2, zn3, zn4, zn5, zn6, reduceCtorEq, zn7, zi1, zi2, if_pos, if_neg, q1]; rfl) ?_)); refine DO.nilF (fun i => i + 1 - nx) (by simp (disch := omega) only [go_sem, ↓reduceIte, zn1, zn2, zn3, zn4, zn5, zn6, reduceCtorEq, zn7, zi1, zi2, if_pos, if_neg, List.map_cons, List.map_nil, Option.map_some, Option.map_none, Nat.add_sub_cancel_left, Nat.sub_eq_zero_of_le, Nat.add_assoc, zn4] <;> rfl) (by kernel_rfl) ?_)))
        exact retQ_ret Try.results17 (by simp (disch := omega) only [go_sem, ↓reduceIte, zn1, zn3, zn4, reduceCtorEq, if_neg] <;> rfl) (by simp (disch := omega) only [go_sem, ↓reduceIte, if_pos, if_neg] <;> rfl) rfl
      · have hrows : ∀ C D : List V, ∀ k, k < ids.length → hget ((nx, (⟨29, C, false⟩ : Blk)) :: (0, ⟨29, D, false⟩) :: (o, ⟨72, slR 2 i ids, false⟩) :: rowsH 54 ids (rI (idL i))) (ids.getD k 0) = some ⟨54, (rI (idL i)).getD k [], false⟩ := by
          intro C D k hk
          have hm := getD_mem' hk
          have := hR.lt _ hm
          simp only [hget]
          rw [if_neg (by omega), if_neg (by omega), if_neg (fun e => hR.o2 (by rw [← e]; exact hm))]
          exact rows_get hR.nod hk (by rw [rI_len]; omega)
        have hfz := fun C D : List V => frz_rowsA (n := 5) (z := 2) (m := i) (ty := 54) (ids := ids) (rs := rI (idL i)) (by omega) (by rw [rI_len]; omega) (hrows C D) (rI_rows hA)
        have hsl := slR_some (z := 2) (m := i) (ids := ids) (by omega)
        have ht : (slR 2 i ids).take i = slR 2 i ids := List.take_of_length_le (by omega)
        have hne : nx ≠ o := by omega
        unfold mat
        rw [hAl]
        (repeat (first | refine DO.nilF (fun i => i + 1 - nx) (by simp (disch := omega) only [go_sem, ↓reduceIte, zn1, zn2, zn3, zn4, zn5, zn6, reduceCtorEq, zn7, zi1, zi2, if_pos, if_neg, List.map_cons, List.map_nil, Option.map_some, Option.map_none, Nat.add_sub_cancel_left, Nat.sub_eq_zero_of_le, Nat.add_assoc, zn4] <;> rfl) (by kernel_rfl) ?_ | (with_reducible refine SC.condB (by simp (disch := omega) only [go_sem, ↓reduceIte]; rfl) ?_; first | with_reducible refine pickT ?_ | with_reducible refine pickF ?_) | (with_reducible first | apply oz1 | apply oz2 | apply oz3 | apply oz4 | apply oz5 | apply oz6 | apply oz7 | apply oz8 | apply oz9 | apply ozb | apply ozc | apply oze | apply ozf | apply ozg | apply ozh | apply ozi | apply ozj | apply ozk | refine ozd (by decide) ?_) | ((with_reducible apply SC.region); (focus (simp (disch := omega) only [go_sem, ↓reduceIte, zn1, zn2, zn3, zn4, reduceCtorEq, if_neg, q1]; rfl))) | (with_reducible refine SC.draw Tab.mixed rfl ?_; (repeat (refine DO.run (by simp (disch := omega) only [go_sem, ↓reduceIte, zn1, zn2, zn3, zn4, zn5, zn6, reduceCtorEq, zn7, zi1, zi2, if_pos, if_neg, q1]; rfl) ?_)); refine DO.nilF (fun i => i + 1 - nx) (by simp (disch := omega) only [go_sem, ↓reduceIte, zn1, zn2, zn3, zn4, zn5, zn6, reduceCtorEq, zn7, zi1, zi2, if_pos, if_neg, List.map_cons, List.map_nil, Option.map_some, Option.map_none, Nat.add_sub_cancel_left, Nat.sub_eq_zero_of_le, Nat.add_assoc, zn4] <;> rfl) (by kernel_rfl) ?_)))
        exact retQ_ret Try.results17 (by simp (disch := omega) only [go_sem, ↓reduceIte, zn1, zn3, zn4, reduceCtorEq, if_neg] <;> rfl) (by simp (disch := omega) only [go_sem, ↓reduceIte, if_pos, if_neg, hfz, hsl, ht, g1] <;> rfl) rfl
end Go.Proofs.Ytfhcmibgpddggaa
namespace Go.Proofs.Ytfhcmibgpddggaa
open Go.RowKit
def ent2 (M : List (List Int)) (r c : Nat) : Int := (M.getD r []).getD c 0
end Go.Proofs.Ytfhcmibgpddggaa
namespace Go.Proofs.Ytfhcmibgpddggaa
open Go.RowKit
def invO (o : OpL) : OpL := ⟨o.kd, o.i, o.j, -o.k⟩
def invL (l : List OpL) : List OpL := (l.map invO).reverse
theorem invO_ok {n : Nat} {o : OpL} (h : OkOp n o) : OkOp n (invO o) := by
  refine ⟨h.i, ?_, ?_⟩
  · have := h.k
    unfold Fits at *
    show (-o.k).natAbs < _
    rwa [Int.natAbs_neg]
  · rcases h.c with ⟨a, b, c, d⟩ | ⟨a, b, d⟩ | ⟨a, b, c⟩
    · exact .inl ⟨a, b, c, by show -o.k = 0; omega⟩
    · exact .inr (.inl ⟨a, b, by show -o.k = 0; omega⟩)
    · exact .inr (.inr ⟨a, b, c⟩)
theorem invL_ok {n : Nat} {l : List OpL} (h : ∀ o ∈ l, OkOp n o) : ∀ o ∈ invL l, OkOp n o := by
  intro o ho
  simp only [invL, List.mem_reverse, List.mem_map] at ho
  obtain ⟨p, hp, rfl⟩ := ho
  exact invO_ok (h p hp)
theorem invL_len (l : List OpL) : (invL l).length = l.length := by simp [invL]
theorem mkOps : mkOf Try.prog 31 = some (56, 56, [.int .i64 0, .int .i64 0, .int .i64 0, .bool false, .slice none 0 0]) := by kernel_rfl
@[go_sem high] theorem exMake_ops {n nx : Nat} (hn : n ≤ 2000000) : exMake Try.prog 31 nx (.sc (.int .i64 0)) (.sc (.int .i64 (n : Int))) = some (.sl nx 0 0 5 (some n), .new ⟨56, reps n [.sc (.int .i64 0), .sc (.int .i64 0), .sc (.int .i64 0), .sc (.bool false), .sc (.slice none 0 0)], false⟩) := by
  have hc : (0:Int) ≤ 0 ∧ (0:Int) ≤ (n:Int) ∧ (n:Int) < 1125899906842624 ∧ ((56 : Nat) : Int) * (n:Int) ≤ 140737488355328 := ⟨by omega, by omega, by omega, by omega⟩
  rw [exMake_eq, mkOps, Option.bind_some]; exact if_pos hc
theorem reps1 (l : List V) : reps 1 l = l := by unfold reps; split <;> simp
theorem opsC_app (a b : List OpL) : opsC (a ++ b) = opsC a ++ opsC b := by
  induction a with
  | nil => rfl
  | cons x r ih => rw [List.cons_append, opsC, opsC, ih, List.append_assoc]
theorem invL_take {l : List OpL} {k : Nat} (h : k < l.length) : (invL l).take (k + 1) = (invL l).take k ++ [invO (l.getD (l.length - 1 - k) ⟨0, 0, 0, 0⟩)] := by
  have hl := invL_len l
  rw [take_snoc (d := ⟨0, 0, 0, 0⟩) (by omega)]
  congr 2
  unfold invL
  rw [List.getD_eq_getElem?_getD, List.getElem?_reverse (by rw [List.length_map]; exact h), List.getElem?_map, List.length_map, List.getD_eq_getElem?_getD]
  rw [List.getElem?_eq_getElem (by omega)]; rfl
theorem opsC_one (l : List OpL) : (opsC l).all V.one = true := by
  induction l with
  | nil => rfl
  | cons x r ih => rw [opsC, List.all_append, ih]; rfl
theorem opsC_clo (l : List OpL) : (opsC l).all clo = true := by
  induction l with
  | nil => rfl
  | cons x r ih => rw [opsC, List.all_append, ih]; rfl
end Go.Proofs.Ytfhcmibgpddggaa
namespace Go.Proofs.Ytfhcmibgpddggaa
open Go.RowKit
attribute [-go_sem] exMake_eq
end Go.Proofs.Ytfhcmibgpddggaa
namespace Go.Proofs.Ytfhcmibgpddggaa
open Go.RowKit
theorem mat_ent {h w K K' : Nat} {A C : List (List Int)} (hA : MI h w K A) (hC : MI h w K' C) (he : ∀ r c, r < h → c < w → ent2 A r c = ent2 C r c) : A = C := by
  rw [← mkM_of hA, ← mkM_of hC]
  exact mkM_congr he
theorem act_ent {h w K : Nat} {M : List (List Int)} (hM : MI h w K M) {o : OpL} (ho : OkOp h o) {r c : Nat} (hr : r < h) (hc : c < w) :
    ent2 (actO M o) r c = if o.kd = 1 then (if r = o.j then ent2 M o.i c else if r = o.i then ent2 M o.j c else ent2 M r c) else if o.kd = 2 then (if r = o.i then -(ent2 M r c) else ent2 M r c) else (if r = o.i then ent2 M r c + o.k * ent2 M o.j c else ent2 M r c) := by
  have hl := hM.len
  have hi := ho.i
  unfold actO
  by_cases h1 : o.kd = 1
  · have hj : o.j < h := by rcases ho.c with ⟨_, hj, _⟩ | ⟨e, _⟩ | ⟨e, _⟩ <;> omega
    rw [if_pos h1, if_pos h1]
    unfold ent2
    rw [swapI_get (by omega) (by omega)]
    by_cases a : r = o.j
    · rw [if_pos a, if_pos a]
    · rw [if_neg a, if_neg a]
      by_cases b : r = o.i
      · rw [if_pos b, if_pos b]
      · rw [if_neg b, if_neg b]
  · rw [if_neg h1, if_neg h1]
    by_cases h2 : o.kd = 2
    · rw [if_pos h2, if_pos h2]
      unfold ent2
      rw [getD_set (by omega)]
      by_cases b : r = o.i
      · rw [if_pos b, if_pos b, negI_get (by rw [(hM.get hi).1]; exact hc), b]
      · rw [if_neg b, if_neg b]
    · rw [if_neg h2, if_neg h2]
      unfold ent2
      rw [getD_set (by omega)]
      by_cases b : r = o.i
      · rw [if_pos b, if_pos b, addI_get (by rw [(hM.get hi).1]; exact hc), b]
      · rw [if_neg b, if_neg b]
end Go.Proofs.Ytfhcmibgpddggaa
namespace Go.Proofs.Ytfhcmibgpddggaa
open Go.RowKit
theorem act_inv {h w K : Nat} {M : List (List Int)} (hM : MI h w K M) {o : OpL} (ho : OkOp h o) : actO (actO M o) (invO o) = M ∧ actO (actO M (invO o)) o = M := by
  have hi := ho.i
  have ho' := invO_ok ho
  have key : ∀ o, OkOp h o → actO (actO M o) (invO o) = M := by
    intro o ho
    have ho' := invO_ok ho
    have hM1 := hM.act ho
    refine mat_ent (hM1.act ho') hM fun r c hr hc => ?_
    rw [act_ent hM1 ho' hr hc]
    show (if o.kd = 1 then (if r = o.j then ent2 (actO M o) o.i c else if r = o.i then ent2 (actO M o) o.j c else ent2 (actO M o) r c) else if o.kd = 2 then (if r = o.i then -(ent2 (actO M o) r c) else ent2 (actO M o) r c) else (if r = o.i then ent2 (actO M o) r c + (-o.k) * ent2 (actO M o) o.j c else ent2 (actO M o) r c)) = _
    rw [act_ent hM ho hr hc, act_ent hM ho ho.i hc]
    by_cases h1 : o.kd = 1
    · obtain ⟨hj, hij⟩ : o.j < h ∧ o.i ≠ o.j := by rcases ho.c with ⟨_, hj, hij, _⟩ | ⟨e, _⟩ | ⟨e, _⟩ <;> first | exact ⟨hj, hij⟩ | omega
      rw [act_ent hM ho hj hc]
      simp only [h1, if_true, if_neg hij]
      by_cases a : r = o.j
      · subst a; simp
      · by_cases b : r = o.i
        · subst b; simp [hij]
        · simp [a, b]
    · by_cases h2 : o.kd = 2
      · simp only [h2]
        by_cases b : r = o.i
        · simp [b]
        · simp [b]
      · obtain ⟨hj, hij⟩ : o.j < h ∧ o.i ≠ o.j := by rcases ho.c with ⟨e, _⟩ | ⟨e, _⟩ | ⟨_, hj, hij⟩ <;> first | exact ⟨hj, hij⟩ | omega
        rw [act_ent hM ho hj hc]
        simp only [if_neg h1, if_neg h2, if_neg (Ne.symm hij)]
        by_cases b : r = o.i
        · simp only [if_pos b]; rw [Int.neg_mul]; omega
        · simp only [if_neg b]
  refine ⟨key o ho, ?_⟩
  have := key (invO o) ho'
  rwa [show invO (invO o) = o by obtain ⟨a, b, c, d⟩ := o; simp [invO]] at this
theorem actsO_app : ∀ (a b : List OpL) (M : List (List Int)), actsO M (a ++ b) = actsO (actsO M a) b
  | [], _, _ => rfl
  | o :: a, b, M => by rw [List.cons_append, actsO, actsO, actsO_app a b]
theorem acts_mi {h w : Nat} : ∀ {l : List OpL} {K : Nat} {M : List (List Int)}, MI h w K M → (∀ o ∈ l, OkOp h o) → MI h w (K + 2 * l.length) (actsO M l)
  | [], _, _, hM, _ => hM
  | o :: l, K, M, hM, hl => by
    rw [actsO]
    exact (acts_mi (hM.act (hl o (by simp))) fun p hp => hl p (by simp [hp])).mono (by rw [List.length_cons]; omega)
theorem invL_cons (o : OpL) (l : List OpL) : invL (o :: l) = invL l ++ [invO o] := by simp [invL]
end Go.Proofs.Ytfhcmibgpddggaa
