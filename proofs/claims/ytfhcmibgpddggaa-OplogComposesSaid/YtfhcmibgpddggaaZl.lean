/- Texts joined: Rl Rm Rn Ro Rp Rq Rr. -/
import Derived.Test.YtfhcmibgpddggaaZc
import Derived.Test.YtfhcmibgpddggaaZf
import Derived.Test.YtfhcmibgpddggaaZk
set_option linter.all false
/- The reference's New. -/
namespace Go.Proofs.Ytfhcmibgpddggaa
open Go.RowKit
set_option maxHeartbeats 4000000 in
theorem rnew_s (h w nx : Nat) (hn : h ≤ 1000000) (hw : w ≤ 1000000) : InlQ Try.prog 42 [.sc (.int .i64 h), .sc (.int .i64 w)] [] nx (MatQ w (zeroL h w) nx) := by
  have hzl : (zeroL h w).length = h := by simp [zeroL]
  refine InlQ.run Try.func42 rfl Try.ntmps42 (by simp) (by simp (disch := omega) only [go_sem, Nat.reduceAdd]; rfl) fun B hB => ?_
  (repeat (first | refine DO.nilF (fun i => i + 1 - nx) (by simp (disch := omega) only [go_sem, ↓reduceIte, Nat.reduceEqDiff, Nat.reduceLT, Nat.reduceLeDiff, Nat.reduceAdd, Nat.reduceMul, Nat.reduceSub, reduceCtorEq, Nat.reduceBEq, Int.reduceToNat, Int.reducePow, if_pos, if_neg, List.map_cons, List.map_nil, Option.map_some, Option.map_none, Nat.add_sub_cancel_left, Nat.sub_eq_zero_of_le, Nat.add_assoc, Nat.reduceAdd] <;> rfl) (by kernel_rfl) ?_ | (with_reducible first | apply oz1 | apply oz2 | apply oz3 | apply oz4 | apply oz5 | apply oz6 | apply oz7 | apply oz8 | apply oz9 | apply ozb | apply ozc | apply oze | apply ozf | apply ozg | apply ozh | apply ozi | apply ozj | apply ozk | refine ozd (by decide) ?_) | ((first | apply SO.call | apply DO.call); (iterate 3 (focus (simp (disch := omega) only [go_sem, ↓reduceIte, Nat.reduceEqDiff, Nat.reduceLT, Nat.reduceLeDiff, Nat.reduceAdd, Nat.reduceMul, Nat.reduceSub, reduceCtorEq, Nat.reduceBEq, Int.reduceToNat, Int.reducePow, if_pos, if_neg] <;> rfl))); (first | apply SCall.ofX | apply DCall.ofX); (focus (first | assumption)); (focus (simp (disch := omega) only [go_sem, ↓reduceIte, Nat.reduceEqDiff, Nat.reduceLT, Nat.reduceLeDiff, Nat.reduceAdd, Nat.reduceMul, Nat.reduceSub, reduceCtorEq, Nat.reduceBEq, Int.reduceToNat, Int.reducePow, if_pos, if_neg] <;> rfl))) | ((with_reducible first | apply SC.condB | apply SC.region | apply SO.run | apply DO.run); (focus (simp (disch := omega) only [go_sem, ↓reduceIte, Nat.reduceLeDiff] <;> rfl)); (first | refine pickT ?_ | refine pickF ?_ | fail_if_success with_reducible refine pickA ?_)) | ((with_reducible refine SC.draw Tab.mixed ?_ ?_); (focus (first | rfl | simp (disch := omega) only [go_sem, ↓reduceIte, Nat.reduceEqDiff, Nat.reduceLT, Nat.reduceLeDiff, Nat.reduceAdd, Nat.reduceMul, Nat.reduceSub, reduceCtorEq, Nat.reduceBEq, Int.reduceToNat, Int.reducePow, if_pos, if_neg]))) | (with_reducible apply SC.ops)))
  refine SC.loop (fun x : Nat × List Nat × Nat × Nat => ⟨[(0, .sc (.int .i64 h)), (1, .sc (.int .i64 w)), (4, .pt nx 0), (5, .sl x.2.2.1 0 x.1 1 none), (6, .sc (.int .i64 x.1))], (nx, ⟨29, [.sc (.int .i64 0), .sc (.int .i64 0), .sc (.slice none 0 0)], false⟩) :: (x.2.2.1, ⟨72, slR 2 w x.2.1, false⟩) :: rowsH 54 x.2.1 (rI (zeroL x.1 w)), x.2.2.2, 22⟩)
    (fun x => x.1 ≤ h ∧ RowsOk x.2.2.1 x.2.1 x.1 nx x.2.2.2 ∧ nx ∉ x.2.1 ∧ nx < x.2.2.1) (fun x => h - x.1) (0, [], nx + 1, nx + 2) ?_ ?_ ?_
  · (refine Le.slots ?_ ?_ ?_ <;> (repeat' (first | (exact fun _ _ h => h) | exact Nat.le_refl _ | exact leSl_nil | refine leSl_cons (by simp (disch := omega) only [go_sem, ↓reduceIte, Nat.reduceEqDiff, reduceCtorEq] <;> rfl) ?_ ?_ | exact VLe.junk _ | exact VLe.refl rfl | exact VLe.nil_sl _ _ _ | exact VLe.int (by first | rfl | omega | (dsimp only; omega)) | exact VLe.bool rfl | exact VLe.sl rfl (by first | rfl | omega) | exact VLe.cap rfl (by first | rfl | omega) | exact VLe.im rfl rfl | omega | (refine fun id k h => ?_; simp only [hget] at h ⊢; (repeat' (split at h)) <;> first | (cases h; done) | (simp (disch := omega) only [if_pos, if_neg]; exact h)))))
  · exact ⟨Nat.zero_le _, ⟨rfl, List.nodup_nil, by simp, by simp only; omega, by simp⟩, by simp, by simp only; omega⟩
  · rintro ⟨i, ids, o, m⟩ ⟨hi, hR, hnx, hno⟩ K hK
    simp only at hi hR hnx hno ⊢
    have hlt : ∀ j ∈ ids, j < m := fun j hj => (hR.lt j hj).2
    by_cases hc : i < h
    · have q1 := decide_eq_true (p := (i : Int) < (h : Int)) (by omega)
      have g1 := slR_len 2 w ids
      rw [hR.len] at g1
      have ht : (slR 2 w ids).take i = slR 2 w ids := List.take_of_length_le (by omega)
      have g2 : (slR 2 w ids).all V.one = true := by
        rw [List.all_eq_true]; intro x hx; obtain ⟨n, _, rfl⟩ := List.mem_map.1 hx; rfl
      have g3 := rows_del (ty := 54) (rs := rI (zeroL i w)) (i := o) (ids := ids) hR.o2
      have ho := hR.o1
      have g4 := slR_len 2 w ids
      (repeat (first | refine DO.nilF (fun i => i + 1 - nx) (by simp (disch := omega) only [go_sem, ↓reduceIte, Nat.reduceEqDiff, Nat.reduceLT, Nat.reduceLeDiff, Nat.reduceAdd, Nat.reduceMul, Nat.reduceSub, reduceCtorEq, Nat.reduceBEq, Int.reduceToNat, Int.reducePow, if_pos, if_neg, List.map_cons, List.map_nil, Option.map_some, Option.map_none, Nat.add_sub_cancel_left, Nat.sub_eq_zero_of_le, Nat.add_assoc, Nat.reduceAdd] <;> rfl) (by kernel_rfl) ?_ | (with_reducible first | apply oz1 | apply oz2 | apply oz3 | apply oz4 | apply oz5 | apply oz6 | apply oz7 | apply oz8 | apply oz9 | apply ozb | apply ozc | apply oze | apply ozf | apply ozg | apply ozh | apply ozi | apply ozj | apply ozk | refine ozd (by decide) ?_) | ((first | apply SO.call | apply DO.call); (iterate 3 (focus (simp (disch := omega) only [go_sem, ↓reduceIte, Nat.reduceEqDiff, Nat.reduceLT, Nat.reduceLeDiff, Nat.reduceAdd, Nat.reduceMul, Nat.reduceSub, reduceCtorEq, Nat.reduceBEq, Int.reduceToNat, Int.reducePow, if_pos, if_neg, q1, g1, g2, g3, ht] <;> rfl))); (first | apply SCall.ofX | apply DCall.ofX); (focus (first | assumption)); (focus (simp (disch := omega) only [go_sem, ↓reduceIte, Nat.reduceEqDiff, Nat.reduceLT, Nat.reduceLeDiff, Nat.reduceAdd, Nat.reduceMul, Nat.reduceSub, reduceCtorEq, Nat.reduceBEq, Int.reduceToNat, Int.reducePow, if_pos, if_neg, q1, g1, g2, g3, ht] <;> rfl))) | ((with_reducible first | apply SC.condB | apply SC.region | apply SO.run | apply DO.run); (focus (simp (disch := omega) only [go_sem, ↓reduceIte, Nat.reduceEqDiff, Nat.reduceLeDiff, Nat.reduceAdd, reduceCtorEq, if_pos, if_neg, q1, g1, g3, ht] <;> rfl)); (first | refine pickT ?_ | refine pickF ?_ | fail_if_success with_reducible refine pickA ?_)) | ((with_reducible refine SC.draw Tab.mixed ?_ ?_); (focus (first | rfl | simp (disch := omega) only [go_sem, ↓reduceIte, Nat.reduceEqDiff, Nat.reduceLT, Nat.reduceLeDiff, Nat.reduceAdd, Nat.reduceMul, Nat.reduceSub, reduceCtorEq, Nat.reduceBEq, Int.reduceToNat, Int.reducePow, if_pos, if_neg, q1, g1, g2, g3, ht]))) | (with_reducible apply SC.ops)))
      have hne : ∀ j ∈ ids, j ≠ nx := fun j hj e => hnx (e ▸ hj)
      refine hK _ (i + 1, ids ++ [m], m + 1 + 1, m + 1 + 1 + 1) ?_ ⟨by simp only; omega, ?_, ?_, by simp only; omega⟩ (by simp only; omega)
      · dsimp only
        refine Le.rowsTo [(nx, _)] ⟨nx, hB, by omega⟩ (fun j k hj => ?_) ?_ (fun k hk1 hk2 => ?_) ?_
        · simp only [hget] at hj
          split at hj
          · rename_i e
            cases hj; subst e
            refine ⟨rfl, ?_⟩
            simp only [hget]
            rw [if_neg (by omega), if_neg (by omega), if_neg (by omega), if_pos trivial]
          · cases hj
        · refine ⟨_, by simp only [hget]; rw [if_pos trivial], ?_⟩
          have := cellsTo (z := 2) (m := w) (n := m) (nx := m + 1 + 1 + 1) (cap := some w) (ids := ids) (rest := []) (fun j hj => by have := hlt j hj; omega) (by omega) (fun x hx => by cases hx)
          simpa using this
        · rw [rI_len, zeroL_len] at hk2
          rw [rI_getD, zeroL_get hk2]
          rcases ids_snoc hk1 with ⟨g, e⟩ | ⟨g, e⟩
          · have hm := getD_mem' g
            have h1 := hlt _ hm
            have h2 := hne _ hm
            have := rows_get (ty := 54) (rs := rI (zeroL i w)) (k := k) hR.nod g (by rw [rI_len, zeroL_len, hR.len])
            rw [rI_getD, zeroL_get (by rw [hR.len] at g; exact g)] at this
            rw [e]
            exact ⟨_, by simp only [hget]; rw [if_neg (by omega), if_neg (by omega), if_neg (by omega), if_neg h2, this], cloTo (clS_of (ivR_clo _))⟩
          · rw [e]
            exact ⟨zer w, by simp only [hget]; rw [if_neg (by omega), if_neg (by omega), if_pos trivial]; rfl, zer_map w⟩
        · (repeat' (first | exact trivial | refine mapSl_cons (by simp (disch := omega) only [go_sem, ↓reduceIte, Nat.reduceEqDiff, reduceCtorEq] <;> rfl) ?_ ?_ | exact VMap.junk _ | exact VMap.sc _ | exact VMap.clo rfl | exact VMap.sl rfl (by omega) | exact VMap.cap rfl (by omega) | exact VMap.pt rfl (by omega) | exact VMap.nil_sl _ _ _ | exact VMap.int (by first | rfl | omega | (dsimp only; omega))))
      · refine ⟨by simp [hR.len], ?_, fun j hj => ?_, by simp only; omega, ?_⟩
        · rw [List.nodup_append]
          exact ⟨hR.nod, by simp, fun a ha b hb => by simp at hb; subst hb; have := hlt a ha; omega⟩
        · rcases List.mem_append.1 hj with g | g
          · have := hR.lt j g; simp only; omega
          · simp at g; simp only; omega
        · intro h
          rcases List.mem_append.1 h with g | g
          · have := hlt _ g; simp only at this; omega
          · have := List.mem_singleton.1 g; simp only at this; omega
      · intro h
        rcases List.mem_append.1 h with g | g
        · exact hnx g
        · simp at g; omega
    · have q1 := decide_eq_false (p := (i : Int) < (h : Int)) (by omega)
      have hin : i = h := by omega
      subst hin
      (repeat (first | refine DO.nilF (fun i => i + 1 - nx) (by simp (disch := omega) only [go_sem, ↓reduceIte, Nat.reduceEqDiff, Nat.reduceLT, Nat.reduceLeDiff, Nat.reduceAdd, Nat.reduceMul, Nat.reduceSub, reduceCtorEq, Nat.reduceBEq, Int.reduceToNat, Int.reducePow, if_pos, if_neg, List.map_cons, List.map_nil, Option.map_some, Option.map_none, Nat.add_sub_cancel_left, Nat.sub_eq_zero_of_le, Nat.add_assoc, Nat.reduceAdd] <;> rfl) (by kernel_rfl) ?_ | (with_reducible first | apply oz1 | apply oz2 | apply oz3 | apply oz4 | apply oz5 | apply oz6 | apply oz7 | apply oz8 | apply oz9 | apply ozb | apply ozc | apply oze | apply ozf | apply ozg | apply ozh | apply ozi | apply ozj | apply ozk | refine ozd (by decide) ?_) | ((first | apply SO.call | apply DO.call); (iterate 3 (focus (simp (disch := omega) only [go_sem, ↓reduceIte, Nat.reduceEqDiff, Nat.reduceLT, Nat.reduceLeDiff, Nat.reduceAdd, Nat.reduceMul, Nat.reduceSub, reduceCtorEq, Nat.reduceBEq, Int.reduceToNat, Int.reducePow, if_pos, if_neg, q1] <;> rfl))); (first | apply SCall.ofX | apply DCall.ofX); (focus (first | assumption)); (focus (simp (disch := omega) only [go_sem, ↓reduceIte, Nat.reduceEqDiff, Nat.reduceLT, Nat.reduceLeDiff, Nat.reduceAdd, Nat.reduceMul, Nat.reduceSub, reduceCtorEq, Nat.reduceBEq, Int.reduceToNat, Int.reducePow, if_pos, if_neg, q1] <;> rfl))) | ((with_reducible first | apply SC.condB | apply SC.region | apply SO.run | apply DO.run); (focus (simp (disch := omega) only [go_sem, ↓reduceIte, Nat.reduceEqDiff, Nat.reduceLT, Nat.reduceLeDiff, Nat.reduceAdd, reduceCtorEq, q1] <;> rfl)); (first | refine pickT ?_ | refine pickF ?_ | fail_if_success with_reducible refine pickA ?_)) | ((with_reducible refine SC.draw Tab.mixed ?_ ?_); (focus (first | rfl | simp (disch := omega) only [go_sem, ↓reduceIte, Nat.reduceEqDiff, Nat.reduceLT, Nat.reduceLeDiff, Nat.reduceAdd, Nat.reduceMul, Nat.reduceSub, reduceCtorEq, Nat.reduceBEq, Int.reduceToNat, Int.reducePow, if_pos, if_neg, q1]))) | (with_reducible apply SC.ops)))
      refine retIQ_ret (.ag [.sc (.int .i64 i), .sc (.int .i64 w), .sl o 0 i 1 none]) ((o, ⟨72, slR 2 w ids, false⟩) :: rowsH 54 ids (rI (zeroL i w))) m Try.results42 (by simp (disch := omega) only [go_sem, ↓reduceIte, Nat.reduceEqDiff, Nat.reduceLeDiff, Nat.reduceAdd, reduceCtorEq]; rfl) ⟨o, ids, by rw [hzl]; exact hR, by rw [hzl], rfl⟩ ?_
      have ho := hR.o1
      refine Le.rowsDown [] pre0 ⟨nx, hB, by omega⟩ (by omega) hlt (rI_clo _) (less_new (fun id k hk => hk) (fun id k hk => ?_)) ?_
      · rcases inR_rows (fun i hi => hi) id k hk with e | e
        · omega
        · exact fun e2 => hnx (e2 ▸ e)
      · refine mapSl_cons (x := .ag [.sc (.int .i64 i), .sc (.int .i64 w), .sl o 0 i 1 none]) (by simp (disch := omega) only [go_sem, ↓reduceIte]) (VMap.ag rfl fun j x y hx hy => ?_) trivial
        match j, hx, hy with
        | 0, hx, hy => cases hx; cases hy; exact VMap.sc _
        | 1, hx, hy => cases hx; cases hy; exact VMap.sc _
        | 2, hx, hy => cases hx; cases hy; exact VMap.cap rfl (by omega)
end Go.Proofs.Ytfhcmibgpddggaa

/- The reference's Identity. -/
namespace Go.Proofs.Ytfhcmibgpddggaa
open Go.RowKit
end Go.Proofs.Ytfhcmibgpddggaa

/- The reference's Mul, Product. -/
namespace Go.Proofs.Ytfhcmibgpddggaa
open Go.RowKit
def dotI (f g : Nat → Int) : Nat → Int
  | 0 => 0
  | k + 1 => dotI f g k + f k * g k
def ent2 (M : List (List Int)) (r c : Nat) : Int := (M.getD r []).getD c 0
def mulM (h n w : Nat) (A C : List (List Int)) : List (List Int) := mkM h w fun r c => dotI (fun t => ent2 A r t) (fun t => ent2 C t c) n
def Fm (n : Nat) (A C : List (List Int)) (i j k r c : Nat) : Int :=
  if r < i ∨ (r = i ∧ c < j) then dotI (fun t => ent2 A r t) (fun t => ent2 C t c) n else if r = i ∧ c = j then dotI (fun t => ent2 A r t) (fun t => ent2 C t c) k else 0
theorem dot_fits {f g : Nat → Int} {K : Nat} : ∀ {k : Nat}, k ≤ 1000000 → (∀ t, t < k → Fits K (f t) ∧ Fits K (g t)) → Fits (2 * K + 1) (dotI f g k) := by
  intro k hk hf
  have key : ∀ m, m ≤ k → (dotI f g m).natAbs ≤ m * (4294967296 ^ K * 4294967296 ^ K) := by
    intro m hm
    induction m with
    | zero => simp [dotI]
    | succ m ih =>
      have h1 := ih (by omega)
      obtain ⟨h2, h3⟩ := hf m (by omega)
      unfold Fits at h2 h3
      have h4 : (f m * g m).natAbs ≤ 4294967296 ^ K * 4294967296 ^ K := by
        rw [Int.natAbs_mul]; exact Nat.mul_le_mul (Nat.le_of_lt h2) (Nat.le_of_lt h3)
      have h5 := Int.natAbs_add_le (dotI f g m) (f m * g m)
      rw [dotI, Nat.add_mul, Nat.one_mul]
      omega
  have h1 := key k (Nat.le_refl _)
  unfold Fits
  have e : 4294967296 ^ (2 * K + 1) = 4294967296 * (4294967296 ^ K * 4294967296 ^ K) := by
    rw [Nat.pow_succ, Nat.two_mul, Nat.pow_add, Nat.mul_comm]
  rw [e]
  have h3 : 0 < 4294967296 ^ K * 4294967296 ^ K := Nat.mul_pos (Nat.pow_pos (by omega)) (Nat.pow_pos (by omega))
  generalize 4294967296 ^ K * 4294967296 ^ K = T at *
  calc _ ≤ k * T := h1
    _ < 4294967296 * T := Nat.mul_lt_mul_of_pos_right (by omega) h3
set_option maxHeartbeats 16000000 in
set_option maxRecDepth 8000 in
theorem rmul_s {h n w K : Nat} {A C : List (List Int)} (hA : MI h n K A) (hC : MI n w K C) (hK : K ≤ 1000000) (hn : h ≤ 1000000) (hnn : n ≤ 1000000) (hw : w ≤ 1000000) :
    Spec Try.prog 41 [mat n A, mat w C] (.tu [mat w (mulM h n w A C), .sc (.int .i64 0)]) := by
  have c0 := rnew_s h w 3 hn hw
  have hAl := hA.len
  have hCl := hC.len
  have hml : (mulM h n w A C).length = h := mkM_len
  have gA := imI_len n A
  have gC := imI_len w C
  unfold mat
  rw [hml]
  rw [hAl] at gA ⊢
  rw [hCl] at gC ⊢
  refine Spec.run Try.func41 rfl Try.ntmps41 (by simp) (by simp (disch := omega) only [go_sem, Nat.reduceAdd]; rfl) fun B hB => ?_
  (repeat (first | refine DO.nilF (fun i => i + 1 - nx) (by simp (disch := omega) only [go_sem, ↓reduceIte, Nat.reduceEqDiff, Nat.reduceLT, Nat.reduceLeDiff, Nat.reduceAdd, Nat.reduceMul, Nat.reduceSub, reduceCtorEq, Nat.reduceBEq, Int.reduceToNat, Int.reducePow, if_pos, if_neg, List.map_cons, List.map_nil, Option.map_some, Option.map_none, Nat.add_sub_cancel_left, Nat.sub_eq_zero_of_le, Nat.add_assoc, Nat.reduceAdd] <;> rfl) (by kernel_rfl) ?_ | (with_reducible first | apply oz1 | apply oz2 | apply oz3 | apply oz4 | apply oz5 | apply oz6 | apply oz7 | apply oz8 | apply oz9 | apply ozb | apply ozc | apply oze | apply ozf | apply ozg | apply ozh | apply ozi | apply ozj | apply ozk | refine ozd (by decide) ?_) | ((first | apply SO.call | apply DO.call); (iterate 3 (focus (simp (disch := omega) only [go_sem, ↓reduceIte, Nat.reduceEqDiff] <;> rfl))); (first | apply SCall.ofX | apply DCall.ofX); (focus (first | assumption)); (focus (simp (disch := omega) only [go_sem, ↓reduceIte, Nat.reduceEqDiff, Nat.reduceLT, Nat.reduceLeDiff, Nat.reduceAdd, Nat.reduceMul, Nat.reduceSub, reduceCtorEq, Nat.reduceBEq, Int.reduceToNat, Int.reducePow, if_pos, if_neg, bne_self_eq_false] <;> rfl))) | ((with_reducible first | apply SC.condB | apply SC.region | apply SO.run | apply DO.run); (focus (simp (disch := omega) only [go_sem, ↓reduceIte, Nat.reduceEqDiff, Nat.reduceAdd, reduceCtorEq, bne_self_eq_false] <;> rfl)); (first | refine pickT ?_ | refine pickF ?_ | fail_if_success with_reducible refine pickA ?_)) | ((with_reducible refine SC.draw Tab.mixed ?_ ?_); (focus (first | rfl | simp (disch := omega) only [go_sem, ↓reduceIte, Nat.reduceEqDiff, Nat.reduceLT, Nat.reduceLeDiff, Nat.reduceAdd, Nat.reduceMul, Nat.reduceSub, reduceCtorEq, Nat.reduceBEq, Int.reduceToNat, Int.reducePow, if_pos, if_neg, bne_self_eq_false]))) | (with_reducible apply SC.ops)))
  refine SO.inlQ (by simp (disch := omega) only [go_sem] <;> rfl) Tab.go42 (by simp (disch := omega) only [go_sem, ↓reduceIte, Nat.reduceEqDiff] <;> rfl) (by simp (disch := omega) only [go_sem] <;> rfl) (SInlQ.newR c0 ?_ ?_ ?_)
  · exact klc (by omega) (klc (by omega) (klc (by omega) kln))
  · exact fun x hp' nx' h => matQ_new h
  rintro x hp' nx ⟨o, ids, hR, rfl, rfl⟩
  have ho := hR.o1
  rw [zeroL_len] at hR ⊢
  have e0 : zeroL h w = mkM h w (Fm n A C 0 0 0) := by
    rw [mkM_zero]
    exact mkM_congr fun r c _ _ => by
      unfold Fm
      rw [if_neg (by omega)]
      split <;> rfl
  rw [e0]
  have hidl := hR.len
  have g1 := slR_len 2 w ids
  rw [hidl] at g1
  (repeat (first | refine DO.nilF (fun i => i + 1 - nx) (by simp (disch := omega) only [go_sem, ↓reduceIte, Nat.reduceEqDiff, Nat.reduceLT, Nat.reduceLeDiff, Nat.reduceAdd, Nat.reduceMul, Nat.reduceSub, reduceCtorEq, Nat.reduceBEq, Int.reduceToNat, Int.reducePow, if_pos, if_neg, List.map_cons, List.map_nil, Option.map_some, Option.map_none, Nat.add_sub_cancel_left, Nat.sub_eq_zero_of_le, Nat.add_assoc, Nat.reduceAdd] <;> rfl) (by kernel_rfl) ?_ | (with_reducible first | apply oz1 | apply oz2 | apply oz3 | apply oz4 | apply oz5 | apply oz6 | apply oz7 | apply oz8 | apply oz9 | apply ozb | apply ozc | apply oze | apply ozf | apply ozg | apply ozh | apply ozi | apply ozj | apply ozk | refine ozd (by decide) ?_) | ((first | apply SO.call | apply DO.call); (iterate 3 (focus (simp (disch := omega) only [go_sem, ↓reduceIte, Nat.reduceEqDiff, Nat.reduceLT, Nat.reduceLeDiff, Nat.reduceAdd, Nat.reduceMul, Nat.reduceSub, reduceCtorEq, Nat.reduceBEq, Int.reduceToNat, Int.reducePow, if_pos, if_neg] <;> rfl))); (first | apply SCall.ofX | apply DCall.ofX); (focus (first | assumption)); (focus (simp (disch := omega) only [go_sem, ↓reduceIte, Nat.reduceEqDiff, Nat.reduceLT, Nat.reduceLeDiff, Nat.reduceAdd, Nat.reduceMul, Nat.reduceSub, reduceCtorEq, Nat.reduceBEq, Int.reduceToNat, Int.reducePow, if_pos, if_neg] <;> rfl))) | ((with_reducible first | apply SC.condB | apply SC.region | apply SO.run | apply DO.run); (focus (simp (disch := omega) only [go_sem, ↓reduceIte, Nat.reduceEqDiff, Nat.reduceLeDiff, Nat.reduceAdd] <;> rfl)); (first | refine pickT ?_ | refine pickF ?_ | fail_if_success with_reducible refine pickA ?_)) | ((with_reducible refine SC.draw Tab.mixed ?_ ?_); (focus (first | rfl | simp (disch := omega) only [go_sem, ↓reduceIte, Nat.reduceEqDiff, Nat.reduceLT, Nat.reduceLeDiff, Nat.reduceAdd, Nat.reduceMul, Nat.reduceSub, reduceCtorEq, Nat.reduceBEq, Int.reduceToNat, Int.reducePow, if_pos, if_neg]))) | (with_reducible apply SC.ops)))
  refine SC.loop (fun i : Nat => ⟨[(2, .pt 0 0), (3, .pt 1 0), (4, .pt 2 0), (6, .pt nx 0), (7, .sc (.int .i64 i))], (nx, ⟨29, [.sc (.int .i64 h), .sc (.int .i64 w), .sl o 0 h 1 none], false⟩) :: (2, ⟨29, [.sc (.int .i64 0), .sc (.int .i64 0), .sc (.slice none 0 0)], false⟩) :: (1, ⟨29, [.sc (.int .i64 n), .sc (.int .i64 w), .im (imR w (rI C)) n], false⟩) :: (0, ⟨29, [.sc (.int .i64 h), .sc (.int .i64 n), .im (imR n (rI A)) h], false⟩) :: (o, ⟨72, slR 2 w ids, false⟩) :: rowsH 54 ids (rI (mkM h w (Fm n A C i 0 0))), nx + 1, 73⟩)
    (fun i => i ≤ h) (fun i => h - i) 0 ?_ ?_ ?_
  · (refine Le.slots ?_ ?_ ?_ <;> (repeat' (first | (exact fun _ _ h => h) | exact Nat.le_refl _ | exact leSl_nil | refine leSl_cons (by simp (disch := omega) only [go_sem, ↓reduceIte, Nat.reduceEqDiff] <;> rfl) ?_ ?_ | exact VLe.junk _ | exact VLe.refl rfl | exact VLe.nil_sl _ _ _ | exact VLe.int (by first | rfl | omega | (dsimp only; omega)) | exact VLe.bool rfl | exact VLe.sl rfl (by first | rfl | omega) | exact VLe.cap rfl (by first | rfl | omega) | exact VLe.im rfl rfl | omega | (refine fun id k h => ?_; simp only [hget] at h ⊢; (repeat' (split at h)) <;> first | (cases h; done) | (simp (disch := omega) only [if_pos, if_neg]; exact h)))))
  · exact Nat.zero_le _
  · intro i hi K1 hK1
    by_cases hc : i < h
    · have q1 := decide_eq_true (p := (i : Int) < (h : Int)) (by omega)
      (repeat (first | refine DO.nilF (fun i => i + 1 - nx) (by simp (disch := omega) only [go_sem, ↓reduceIte, Nat.reduceEqDiff, Nat.reduceLT, Nat.reduceLeDiff, Nat.reduceAdd, Nat.reduceMul, Nat.reduceSub, reduceCtorEq, Nat.reduceBEq, Int.reduceToNat, Int.reducePow, if_pos, if_neg, List.map_cons, List.map_nil, Option.map_some, Option.map_none, Nat.add_sub_cancel_left, Nat.sub_eq_zero_of_le, Nat.add_assoc, Nat.reduceAdd] <;> rfl) (by kernel_rfl) ?_ | (with_reducible first | apply oz1 | apply oz2 | apply oz3 | apply oz4 | apply oz5 | apply oz6 | apply oz7 | apply oz8 | apply oz9 | apply ozb | apply ozc | apply oze | apply ozf | apply ozg | apply ozh | apply ozi | apply ozj | apply ozk | refine ozd (by decide) ?_) | ((first | apply SO.call | apply DO.call); (iterate 3 (focus (simp (disch := omega) only [go_sem, ↓reduceIte, Nat.reduceEqDiff, Nat.reduceLT, Nat.reduceLeDiff, Nat.reduceAdd, Nat.reduceMul, Nat.reduceSub, reduceCtorEq, Nat.reduceBEq, Int.reduceToNat, Int.reducePow, if_pos, if_neg, q1] <;> rfl))); (first | apply SCall.ofX | apply DCall.ofX); (focus (first | assumption)); (focus (simp (disch := omega) only [go_sem, ↓reduceIte, Nat.reduceEqDiff, Nat.reduceLT, Nat.reduceLeDiff, Nat.reduceAdd, Nat.reduceMul, Nat.reduceSub, reduceCtorEq, Nat.reduceBEq, Int.reduceToNat, Int.reducePow, if_pos, if_neg, q1] <;> rfl))) | ((with_reducible first | apply SC.condB | apply SC.region | apply SO.run | apply DO.run); (focus (simp (disch := omega) only [go_sem, ↓reduceIte, Nat.reduceEqDiff, reduceCtorEq, if_neg, q1] <;> rfl)); (first | refine pickT ?_ | refine pickF ?_ | fail_if_success with_reducible refine pickA ?_)) | ((with_reducible refine SC.draw Tab.mixed ?_ ?_); (focus (first | rfl | simp (disch := omega) only [go_sem, ↓reduceIte, Nat.reduceEqDiff, Nat.reduceLT, Nat.reduceLeDiff, Nat.reduceAdd, Nat.reduceMul, Nat.reduceSub, reduceCtorEq, Nat.reduceBEq, Int.reduceToNat, Int.reducePow, if_pos, if_neg, q1]))) | (with_reducible apply SC.ops)))
      refine SC.loop (fun j : Nat => ⟨[(2, .pt 0 0), (3, .pt 1 0), (4, .pt 2 0), (6, .pt nx 0), (7, .sc (.int .i64 i)), (8, .sc (.int .i64 j))], (nx, ⟨29, [.sc (.int .i64 h), .sc (.int .i64 w), .sl o 0 h 1 none], false⟩) :: (2, ⟨29, [.sc (.int .i64 0), .sc (.int .i64 0), .sc (.slice none 0 0)], false⟩) :: (1, ⟨29, [.sc (.int .i64 n), .sc (.int .i64 w), .im (imR w (rI C)) n], false⟩) :: (0, ⟨29, [.sc (.int .i64 h), .sc (.int .i64 n), .im (imR n (rI A)) h], false⟩) :: (o, ⟨72, slR 2 w ids, false⟩) :: rowsH 54 ids (rI (mkM h w (Fm n A C i j 0))), nx + 1, 73⟩)
        (fun j => j ≤ w) (fun j => w - j) 0 ?_ ?_ ?_
      · (refine Le.slots ?_ ?_ ?_ <;> (repeat' (first | (exact fun _ _ h => h) | exact Nat.le_refl _ | exact leSl_nil | refine leSl_cons (by simp (disch := omega) only [go_sem, ↓reduceIte, Nat.reduceEqDiff] <;> rfl) ?_ ?_ | exact VLe.junk _ | exact VLe.refl rfl | exact VLe.nil_sl _ _ _ | exact VLe.int (by first | rfl | omega | (dsimp only; omega)) | exact VLe.bool rfl | exact VLe.sl rfl (by first | rfl | omega) | exact VLe.cap rfl (by first | rfl | omega) | exact VLe.im rfl rfl | omega | (refine fun id k h => ?_; simp only [hget] at h ⊢; (repeat' (split at h)) <;> first | (cases h; done) | (simp (disch := omega) only [if_pos, if_neg]; exact h)))))
      · exact Nat.zero_le _
      · intro j hj K2 hK2
        by_cases hc2 : j < w
        · have q2 := decide_eq_true (p := (j : Int) < (w : Int)) (by omega)
          (repeat (first | refine DO.nilF (fun i => i + 1 - nx) (by simp (disch := omega) only [go_sem, ↓reduceIte, Nat.reduceEqDiff, Nat.reduceLT, Nat.reduceLeDiff, Nat.reduceAdd, Nat.reduceMul, Nat.reduceSub, reduceCtorEq, Nat.reduceBEq, Int.reduceToNat, Int.reducePow, if_pos, if_neg, List.map_cons, List.map_nil, Option.map_some, Option.map_none, Nat.add_sub_cancel_left, Nat.sub_eq_zero_of_le, Nat.add_assoc, Nat.reduceAdd] <;> rfl) (by kernel_rfl) ?_ | (with_reducible first | apply oz1 | apply oz2 | apply oz3 | apply oz4 | apply oz5 | apply oz6 | apply oz7 | apply oz8 | apply oz9 | apply ozb | apply ozc | apply oze | apply ozf | apply ozg | apply ozh | apply ozi | apply ozj | apply ozk | refine ozd (by decide) ?_) | ((first | apply SO.call | apply DO.call); (iterate 3 (focus (simp (disch := omega) only [go_sem, ↓reduceIte, Nat.reduceEqDiff, Nat.reduceLT, Nat.reduceLeDiff, Nat.reduceAdd, Nat.reduceMul, Nat.reduceSub, reduceCtorEq, Nat.reduceBEq, Int.reduceToNat, Int.reducePow, if_pos, if_neg, q2] <;> rfl))); (first | apply SCall.ofX | apply DCall.ofX); (focus (first | assumption)); (focus (simp (disch := omega) only [go_sem, ↓reduceIte, Nat.reduceEqDiff, Nat.reduceLT, Nat.reduceLeDiff, Nat.reduceAdd, Nat.reduceMul, Nat.reduceSub, reduceCtorEq, Nat.reduceBEq, Int.reduceToNat, Int.reducePow, if_pos, if_neg, q2] <;> rfl))) | ((with_reducible first | apply SC.condB | apply SC.region | apply SO.run | apply DO.run); (focus (simp (disch := omega) only [go_sem, ↓reduceIte, Nat.reduceEqDiff, reduceCtorEq, if_neg, q2] <;> rfl)); (first | refine pickT ?_ | refine pickF ?_ | fail_if_success with_reducible refine pickA ?_)) | ((with_reducible refine SC.draw Tab.mixed ?_ ?_); (focus (first | rfl | simp (disch := omega) only [go_sem, ↓reduceIte, Nat.reduceEqDiff, Nat.reduceLT, Nat.reduceLeDiff, Nat.reduceAdd, Nat.reduceMul, Nat.reduceSub, reduceCtorEq, Nat.reduceBEq, Int.reduceToNat, Int.reducePow, if_pos, if_neg, q2]))) | (with_reducible apply SC.ops)))
          refine SC.loop (fun k : Nat => ⟨[(2, .pt 0 0), (3, .pt 1 0), (4, .pt 2 0), (6, .pt nx 0), (7, .sc (.int .i64 i)), (8, .sc (.int .i64 j)), (9, .sc (.int .i64 k))], (nx, ⟨29, [.sc (.int .i64 h), .sc (.int .i64 w), .sl o 0 h 1 none], false⟩) :: (2, ⟨29, [.sc (.int .i64 0), .sc (.int .i64 0), .sc (.slice none 0 0)], false⟩) :: (1, ⟨29, [.sc (.int .i64 n), .sc (.int .i64 w), .im (imR w (rI C)) n], false⟩) :: (0, ⟨29, [.sc (.int .i64 h), .sc (.int .i64 n), .im (imR n (rI A)) h], false⟩) :: (o, ⟨72, slR 2 w ids, false⟩) :: rowsH 54 ids (rI (mkM h w (Fm n A C i j k))), nx + 1, 73⟩)
            (fun k => k ≤ n) (fun k => n - k) 0 ?_ ?_ ?_
          · (refine Le.slots ?_ ?_ ?_ <;> (repeat' (first | (exact fun _ _ h => h) | exact Nat.le_refl _ | exact leSl_nil | refine leSl_cons (by simp (disch := omega) only [go_sem, ↓reduceIte, Nat.reduceEqDiff] <;> rfl) ?_ ?_ | exact VLe.junk _ | exact VLe.refl rfl | exact VLe.nil_sl _ _ _ | exact VLe.int (by first | rfl | omega | (dsimp only; omega)) | exact VLe.bool rfl | exact VLe.sl rfl (by first | rfl | omega) | exact VLe.cap rfl (by first | rfl | omega) | exact VLe.im rfl rfl | omega | (refine fun id k h => ?_; simp only [hget] at h ⊢; (repeat' (split at h)) <;> first | (cases h; done) | (simp (disch := omega) only [if_pos, if_neg]; exact h)))))
          · exact Nat.zero_le _
          · intro k hk K3 hK3
            by_cases hc3 : k < n
            · have q3 := decide_eq_true (p := (k : Int) < (n : Int)) (by omega)
              have gi := slR_get (z := 2) (m := w) (ids := ids) (k := i) (by omega)
              have hfx := hA.fit hc hc3
              have hfy := hC.fit hc3 hc2
              have hfd := dot_fits (f := fun t => ent2 A i t) (g := fun t => ent2 C t j) (K := K) (k := k) (by omega) (fun t ht => ⟨hA.fit hc (by omega), hC.fit (by omega) hc2⟩)
              obtain ⟨gR, gl, gd, gs, hrs⟩ := cellF (ty := 54) (f := Fm n A C i j k) (z := dotI (fun t => ent2 A i t) (fun t => ent2 C t j) k + ent2 A i k * ent2 C k j) (j := j) hR.nod hidl hc hc2
              have e1 : (mkM h w fun r c => if r = i ∧ c = j then dotI (fun t => ent2 A i t) (fun t => ent2 C t j) k + ent2 A i k * ent2 C k j else Fm n A C i j k r c) = mkM h w (Fm n A C i j (k + 1)) := mkM_congr fun r c _ _ => by
                unfold Fm
                by_cases e : r = i ∧ c = j
                · obtain ⟨rfl, rfl⟩ := e
                  rw [if_pos ⟨rfl, rfl⟩, if_neg (by omega), if_pos ⟨rfl, rfl⟩, dotI]
                · rw [if_neg e, if_neg e, if_neg e]
              rw [e1] at hrs
              have e2 : Fm n A C i j k i j = dotI (fun t => ent2 A i t) (fun t => ent2 C t j) k := by
                unfold Fm
                rw [if_neg (by omega), if_pos ⟨rfl, rfl⟩]
              rw [e2] at gd
              have gAi := imI_get (w := n) (M := A) (i := i) (by omega)
              have gCk := imI_get (w := w) (M := C) (i := k) (by omega)
              have hAi := hA.get hc
              have hCk := hC.get hc3
              have gdA := ivR_drop (l := A.getD i []) (i := k) (by omega)
              have gdC := ivR_drop (l := C.getD k []) (i := j) (by omega)
              have glA := ivR_len (A.getD i [])
              have glC := ivR_len (C.getD k [])
              have hx : (A.getD i []).getD k 0 = ent2 A i k := rfl
              have hy : (C.getD k []).getD j 0 = ent2 C k j := rfl
              rw [hx] at gdA hfx
              rw [hy] at gdC hfy
              rw [hAi.1] at glA
              rw [hCk.1] at glC
              have c1 := mul_i (ent2 A i k) (ent2 C k j) K hfx hfy (by omega)
              have hxy : Fits (2 * K + 1) (ent2 A i k * ent2 C k j) := by
                have := dot_fits (f := fun _ => ent2 A i k) (g := fun _ => ent2 C k j) (K := K) (k := 1) (by omega) (fun _ _ => ⟨hfx, hfy⟩)
                simpa [dotI] using this
              have c2 := add_i _ _ (2 * K + 1) hfd hxy (by omega)
              have hkl := klB_rows (ty := 54) (rs := rI (mkM h w (Fm n A C i j k))) (n := nx + 1) (fun j hj => by have := hR.lt j hj; omega)
              have hmem := getD_mem' (ids := ids) (k := i) (by omega)
              have hidk := hR.lt _ hmem
              have hne : ids.getD i 0 ≠ o := fun e => hR.o2 (by rw [← e]; exact hmem)
              clear hfx hfy hfd hxy e1 e2 hx hy
              generalize hH : rowsH 54 ids (rI (mkM h w (Fm n A C i j k))) = H at *
              generalize mkR w (Fm n A C i j k i) = row at *
              generalize ids.getD i 0 = idk at *
              generalize dotI (fun t => ent2 A i t) (fun t => ent2 C t j) k = d at *
              generalize ent2 A i k = x at *
              generalize ent2 C k j = y at *
              generalize (ivR row).drop ((j + 1) * 2) = D1 at *
              generalize (ivR (A.getD i [])).drop ((k + 1) * 2) = D2 at *
              generalize (ivR (C.getD k [])).drop ((j + 1) * 2) = D3 at *
              generalize ivR (A.getD i []) = RA at *
              generalize ivR (C.getD k []) = RC at *
              generalize hRr : ivR row = RR at *
              unfold iv sv at c1 c2
              unfold ivC sv at gs gd gdA gdC
              simp only [List.cons_append, List.nil_append] at gd gdA gdC
              have g2 : j * 2 < RR.length := by omega
              have g3 : k * 2 < RA.length := by omega
              have g4 : j * 2 < RC.length := by omega
              (repeat (first | refine DO.nilF (fun i => i + 1 - nx) (by simp (disch := omega) only [go_sem, Nat.reduceAdd, List.map_cons, List.map_nil, Option.map_some, Option.map_none, Nat.add_sub_cancel_left, Nat.sub_eq_zero_of_le, Nat.reduceAdd] <;> rfl) (by kernel_rfl) ?_ | (with_reducible first | apply oz1 | apply oz2 | apply oz3 | apply oz4 | apply oz5 | apply oz6 | apply oz7 | apply oz8 | apply oz9 | apply ozb | apply ozc | apply oze | apply ozf | apply ozg | apply ozh | apply ozi | apply ozj | apply ozk | refine ozd (by decide) ?_) | ((first | apply SO.call | apply DO.call); (iterate 3 (focus (simp (disch := omega) only [go_sem, ↓reduceIte, Nat.reduceEqDiff] <;> rfl))); (first | apply SCall.ofX | apply DCall.ofX); (focus (first | assumption)); (focus (simp (disch := omega) only [go_sem] <;> rfl))) | ((with_reducible first | apply SC.condB | apply SC.region | apply SO.run | apply DO.run); (focus (simp (disch := omega) only [go_sem, ↓reduceIte, Nat.reduceEqDiff, Nat.reduceLeDiff, Nat.reduceAdd, reduceCtorEq, if_pos, if_neg, q3, gi, gR, gl, gd, gs, hrs, glA, glC, gAi, gCk, gdA, gdC, gA, gC, List.getElem?_drop] <;> rfl)); (first | refine pickT ?_ | refine pickF ?_ | fail_if_success with_reducible refine pickA ?_)) | ((with_reducible refine SC.draw Tab.mixed ?_ ?_); (focus (first | rfl | simp (disch := omega) only [go_sem, ↓reduceIte, if_pos, hkl]))) | (with_reducible apply SC.ops)))
              refine hK3 _ (k + 1) ?_ (by omega) (by omega)
              (refine Le.slots ?_ ?_ ?_ <;> (repeat' (first | (exact fun _ _ h => h) | exact Nat.le_refl _ | exact leSl_nil | refine leSl_cons (by simp (disch := omega) only [go_sem, ↓reduceIte, Nat.reduceEqDiff] <;> rfl) ?_ ?_ | exact VLe.junk _ | exact VLe.refl rfl | exact VLe.nil_sl _ _ _ | exact VLe.int (by first | rfl | omega | (dsimp only; omega)) | exact VLe.bool rfl | exact VLe.sl rfl (by first | rfl | omega) | exact VLe.cap rfl (by first | rfl | omega) | exact VLe.im rfl rfl | omega | (refine fun id k h => ?_; simp only [hget] at h ⊢; (repeat' (split at h)) <;> first | (cases h; done) | (simp (disch := omega) only [if_pos, if_neg]; exact h)))))
            · have q3 := decide_eq_false (p := (k : Int) < (n : Int)) (by omega)
              have hkn : k = n := by omega
              subst hkn
              (repeat (first | refine DO.nilF (fun i => i + 1 - nx) (by simp (disch := omega) only [go_sem, ↓reduceIte, Nat.reduceEqDiff, Nat.reduceLT, Nat.reduceLeDiff, Nat.reduceAdd, Nat.reduceMul, Nat.reduceSub, reduceCtorEq, Nat.reduceBEq, Int.reduceToNat, Int.reducePow, if_pos, if_neg, List.map_cons, List.map_nil, Option.map_some, Option.map_none, Nat.add_sub_cancel_left, Nat.sub_eq_zero_of_le, Nat.add_assoc, Nat.reduceAdd] <;> rfl) (by kernel_rfl) ?_ | (with_reducible first | apply oz1 | apply oz2 | apply oz3 | apply oz4 | apply oz5 | apply oz6 | apply oz7 | apply oz8 | apply oz9 | apply ozb | apply ozc | apply oze | apply ozf | apply ozg | apply ozh | apply ozi | apply ozj | apply ozk | refine ozd (by decide) ?_) | ((first | apply SO.call | apply DO.call); (iterate 3 (focus (simp (disch := omega) only [go_sem, ↓reduceIte, Nat.reduceEqDiff, Nat.reduceLT, Nat.reduceLeDiff, Nat.reduceAdd, Nat.reduceMul, Nat.reduceSub, reduceCtorEq, Nat.reduceBEq, Int.reduceToNat, Int.reducePow, if_pos, if_neg, q3] <;> rfl))); (first | apply SCall.ofX | apply DCall.ofX); (focus (first | assumption)); (focus (simp (disch := omega) only [go_sem, ↓reduceIte, Nat.reduceEqDiff, Nat.reduceLT, Nat.reduceLeDiff, Nat.reduceAdd, Nat.reduceMul, Nat.reduceSub, reduceCtorEq, Nat.reduceBEq, Int.reduceToNat, Int.reducePow, if_pos, if_neg, q3] <;> rfl))) | ((with_reducible first | apply SC.condB | apply SC.region | apply SO.run | apply DO.run); (focus (simp (disch := omega) only [go_sem, ↓reduceIte, Nat.reduceEqDiff, reduceCtorEq, if_neg, q3] <;> rfl)); (first | refine pickT ?_ | refine pickF ?_ | fail_if_success with_reducible refine pickA ?_)) | ((with_reducible refine SC.draw Tab.mixed ?_ ?_); (focus (first | rfl | simp (disch := omega) only [go_sem, ↓reduceIte, Nat.reduceEqDiff, Nat.reduceLT, Nat.reduceLeDiff, Nat.reduceAdd, Nat.reduceMul, Nat.reduceSub, reduceCtorEq, Nat.reduceBEq, Int.reduceToNat, Int.reducePow, if_pos, if_neg, q3]))) | (with_reducible apply SC.ops)))
              refine hK2 _ (j + 1) ?_ (by omega) (by omega)
              have e1 : mkM h w (Fm k A C i j k) = mkM h w (Fm k A C i (j + 1) 0) := mkM_congr fun r c _ _ => by
                unfold Fm
                by_cases e : r < i ∨ (r = i ∧ c < j)
                · rw [if_pos e, if_pos (by omega)]
                · rw [if_neg e]
                  by_cases e2 : r = i ∧ c = j
                  · rw [if_pos e2, if_pos (by omega)]
                  · rw [if_neg e2, if_neg (by omega)]
                    split <;> rfl
              rw [e1]
              (refine Le.slots ?_ ?_ ?_ <;> (repeat' (first | (exact fun _ _ h => h) | exact Nat.le_refl _ | exact leSl_nil | refine leSl_cons (by simp (disch := omega) only [go_sem, ↓reduceIte, Nat.reduceEqDiff] <;> rfl) ?_ ?_ | exact VLe.junk _ | exact VLe.refl rfl | exact VLe.nil_sl _ _ _ | exact VLe.int (by first | rfl | omega | (dsimp only; omega)) | exact VLe.bool rfl | exact VLe.sl rfl (by first | rfl | omega) | exact VLe.cap rfl (by first | rfl | omega) | exact VLe.im rfl rfl | omega | (refine fun id k h => ?_; simp only [hget] at h ⊢; (repeat' (split at h)) <;> first | (cases h; done) | (simp (disch := omega) only [if_pos, if_neg]; exact h)))))
        · have q2 := decide_eq_false (p := (j : Int) < (w : Int)) (by omega)
          have hjw : j = w := by omega
          subst hjw
          (repeat (first | refine DO.nilF (fun i => i + 1 - nx) (by simp (disch := omega) only [go_sem, ↓reduceIte, Nat.reduceEqDiff, Nat.reduceLT, Nat.reduceLeDiff, Nat.reduceAdd, Nat.reduceMul, Nat.reduceSub, reduceCtorEq, Nat.reduceBEq, Int.reduceToNat, Int.reducePow, if_pos, if_neg, List.map_cons, List.map_nil, Option.map_some, Option.map_none, Nat.add_sub_cancel_left, Nat.sub_eq_zero_of_le, Nat.add_assoc, Nat.reduceAdd] <;> rfl) (by kernel_rfl) ?_ | (with_reducible first | apply oz1 | apply oz2 | apply oz3 | apply oz4 | apply oz5 | apply oz6 | apply oz7 | apply oz8 | apply oz9 | apply ozb | apply ozc | apply oze | apply ozf | apply ozg | apply ozh | apply ozi | apply ozj | apply ozk | refine ozd (by decide) ?_) | ((first | apply SO.call | apply DO.call); (iterate 3 (focus (simp (disch := omega) only [go_sem, ↓reduceIte, Nat.reduceEqDiff, Nat.reduceLT, Nat.reduceLeDiff, Nat.reduceAdd, Nat.reduceMul, Nat.reduceSub, reduceCtorEq, Nat.reduceBEq, Int.reduceToNat, Int.reducePow, if_pos, if_neg, q2] <;> rfl))); (first | apply SCall.ofX | apply DCall.ofX); (focus (first | assumption)); (focus (simp (disch := omega) only [go_sem, ↓reduceIte, Nat.reduceEqDiff, Nat.reduceLT, Nat.reduceLeDiff, Nat.reduceAdd, Nat.reduceMul, Nat.reduceSub, reduceCtorEq, Nat.reduceBEq, Int.reduceToNat, Int.reducePow, if_pos, if_neg, q2] <;> rfl))) | ((with_reducible first | apply SC.condB | apply SC.region | apply SO.run | apply DO.run); (focus (simp (disch := omega) only [go_sem, ↓reduceIte, Nat.reduceEqDiff, reduceCtorEq, if_neg, q2] <;> rfl)); (first | refine pickT ?_ | refine pickF ?_ | fail_if_success with_reducible refine pickA ?_)) | ((with_reducible refine SC.draw Tab.mixed ?_ ?_); (focus (first | rfl | simp (disch := omega) only [go_sem, ↓reduceIte, Nat.reduceEqDiff, Nat.reduceLT, Nat.reduceLeDiff, Nat.reduceAdd, Nat.reduceMul, Nat.reduceSub, reduceCtorEq, Nat.reduceBEq, Int.reduceToNat, Int.reducePow, if_pos, if_neg, q2]))) | (with_reducible apply SC.ops)))
          refine hK1 _ (i + 1) ?_ (by omega) (by omega)
          have e1 : mkM h j (Fm n A C i j 0) = mkM h j (Fm n A C (i + 1) 0 0) := mkM_congr fun r c _ hcj => by
            unfold Fm
            by_cases e : r < i ∨ (r = i ∧ c < j)
            · rw [if_pos e, if_pos (by omega)]
            · rw [if_neg e, if_neg (by omega), if_neg (by omega)]
              split <;> rfl
          rw [e1]
          (refine Le.slots ?_ ?_ ?_ <;> (repeat' (first | (exact fun _ _ h => h) | exact Nat.le_refl _ | exact leSl_nil | refine leSl_cons (by simp (disch := omega) only [go_sem, ↓reduceIte, Nat.reduceEqDiff] <;> rfl) ?_ ?_ | exact VLe.junk _ | exact VLe.refl rfl | exact VLe.nil_sl _ _ _ | exact VLe.int (by first | rfl | omega | (dsimp only; omega)) | exact VLe.bool rfl | exact VLe.sl rfl (by first | rfl | omega) | exact VLe.cap rfl (by first | rfl | omega) | exact VLe.im rfl rfl | omega | (refine fun id k h => ?_; simp only [hget] at h ⊢; (repeat' (split at h)) <;> first | (cases h; done) | (simp (disch := omega) only [if_pos, if_neg]; exact h)))))
    · have q1 := decide_eq_false (p := (i : Int) < (h : Int)) (by omega)
      have hih : i = h := by omega
      subst hih
      have e1 : mkM i w (Fm n A C i 0 0) = mulM i n w A C := mkM_congr fun r c hr _ => by
        unfold Fm
        rw [if_pos (.inl hr)]
      rw [e1]
      have hM : MI i w (2 * K + 1) (mulM i n w A C) := mk_mi fun r c hr hc => dot_fits (by omega) (fun t ht => ⟨hA.fit hr ht, hC.fit ht hc⟩)
      generalize mulM i n w A C = Z at *
      have hZl := hM.len
      by_cases h0 : i = 0
      · subst h0
        have hids : ids = [] := List.eq_nil_of_length_eq_zero (by omega)
        have hZ : Z = [] := List.eq_nil_of_length_eq_zero (by omega)
        subst hids; subst hZ
        (repeat (first | refine DO.nilF (fun i => i + 1 - nx) (by simp (disch := omega) only [go_sem, ↓reduceIte, Nat.reduceEqDiff, Nat.reduceLT, Nat.reduceLeDiff, Nat.reduceAdd, Nat.reduceMul, Nat.reduceSub, reduceCtorEq, Nat.reduceBEq, Int.reduceToNat, Int.reducePow, if_pos, if_neg, List.map_cons, List.map_nil, Option.map_some, Option.map_none, Nat.add_sub_cancel_left, Nat.sub_eq_zero_of_le, Nat.add_assoc, Nat.reduceAdd] <;> rfl) (by kernel_rfl) ?_ | (with_reducible first | apply oz1 | apply oz2 | apply oz3 | apply oz4 | apply oz5 | apply oz6 | apply oz7 | apply oz8 | apply oz9 | apply ozb | apply ozc | apply oze | apply ozf | apply ozg | apply ozh | apply ozi | apply ozj | apply ozk | refine ozd (by decide) ?_) | ((first | apply SO.call | apply DO.call); (iterate 3 (focus (simp (disch := omega) only [go_sem, ↓reduceIte, Nat.reduceEqDiff, Nat.reduceLT, Nat.reduceLeDiff, Nat.reduceAdd, Nat.reduceMul, Nat.reduceSub, reduceCtorEq, Nat.reduceBEq, Int.reduceToNat, Int.reducePow, if_pos, if_neg, q1] <;> rfl))); (first | apply SCall.ofX | apply DCall.ofX); (focus (first | assumption)); (focus (simp (disch := omega) only [go_sem, ↓reduceIte, Nat.reduceEqDiff, Nat.reduceLT, Nat.reduceLeDiff, Nat.reduceAdd, Nat.reduceMul, Nat.reduceSub, reduceCtorEq, Nat.reduceBEq, Int.reduceToNat, Int.reducePow, if_pos, if_neg, q1] <;> rfl))) | ((with_reducible first | apply SC.condB | apply SC.region | apply SO.run | apply DO.run); (focus (simp (disch := omega) only [go_sem, ↓reduceIte, Nat.reduceEqDiff, Nat.reduceLT, Nat.reduceLeDiff, Nat.reduceAdd, reduceCtorEq, if_neg, q1] <;> rfl)); (first | refine pickT ?_ | refine pickF ?_ | fail_if_success with_reducible refine pickA ?_)) | ((with_reducible refine SC.draw Tab.mixed ?_ ?_); (focus (first | rfl | simp (disch := omega) only [go_sem, ↓reduceIte, Nat.reduceEqDiff, Nat.reduceLT, Nat.reduceLeDiff, Nat.reduceAdd, Nat.reduceMul, Nat.reduceSub, reduceCtorEq, Nat.reduceBEq, Int.reduceToNat, Int.reducePow, if_pos, if_neg, q1]))) | (with_reducible apply SC.ops)))
        exact retQ_ret Try.results41 (by simp (disch := omega) only [go_sem, ↓reduceIte, Nat.reduceEqDiff, Nat.reduceLeDiff, Nat.reduceAdd, if_neg] <;> rfl) (by simp (disch := omega) only [go_sem, ↓reduceIte, if_pos, if_neg] <;> rfl) rfl
      · have hrows : ∀ C1 C2 C3 C4 : List V, ∀ k, k < ids.length → hget ((nx, (⟨29, C1, false⟩ : Blk)) :: (2, ⟨29, C2, false⟩) :: (1, ⟨29, C3, false⟩) :: (0, ⟨29, C4, false⟩) :: (o, ⟨72, slR 2 w ids, false⟩) :: rowsH 54 ids (rI Z)) (ids.getD k 0) = some ⟨54, (rI Z).getD k [], false⟩ := by
          intro C1 C2 C3 C4 k hk
          have hm := getD_mem' hk
          have := hR.lt _ hm
          simp only [hget]
          rw [if_neg (by omega), if_neg (by omega), if_neg (by omega), if_neg (by omega), if_neg (fun e => hR.o2 (by rw [← e]; exact hm))]
          exact rows_get hR.nod hk (by rw [rI_len]; omega)
        have hfz := fun C1 C2 C3 C4 : List V => frz_rowsA (n := 4) (z := 2) (m := w) (ty := 54) (ids := ids) (rs := rI Z) (by omega) (by rw [rI_len]; omega) (hrows C1 C2 C3 C4) (rI_rows hM)
        have hsl := slR_some (z := 2) (m := w) (ids := ids) (by omega)
        have ht : (slR 2 w ids).take i = slR 2 w ids := List.take_of_length_le (by omega)
        have hne : nx ≠ o := by omega
        (repeat (first | refine DO.nilF (fun i => i + 1 - nx) (by simp (disch := omega) only [go_sem, ↓reduceIte, Nat.reduceEqDiff, Nat.reduceLT, Nat.reduceLeDiff, Nat.reduceAdd, Nat.reduceMul, Nat.reduceSub, reduceCtorEq, Nat.reduceBEq, Int.reduceToNat, Int.reducePow, if_pos, if_neg, List.map_cons, List.map_nil, Option.map_some, Option.map_none, Nat.add_sub_cancel_left, Nat.sub_eq_zero_of_le, Nat.add_assoc, Nat.reduceAdd] <;> rfl) (by kernel_rfl) ?_ | (with_reducible first | apply oz1 | apply oz2 | apply oz3 | apply oz4 | apply oz5 | apply oz6 | apply oz7 | apply oz8 | apply oz9 | apply ozb | apply ozc | apply oze | apply ozf | apply ozg | apply ozh | apply ozi | apply ozj | apply ozk | refine ozd (by decide) ?_) | ((first | apply SO.call | apply DO.call); (iterate 3 (focus (simp (disch := omega) only [go_sem, ↓reduceIte, Nat.reduceEqDiff, Nat.reduceLT, Nat.reduceLeDiff, Nat.reduceAdd, Nat.reduceMul, Nat.reduceSub, reduceCtorEq, Nat.reduceBEq, Int.reduceToNat, Int.reducePow, if_pos, if_neg, q1] <;> rfl))); (first | apply SCall.ofX | apply DCall.ofX); (focus (first | assumption)); (focus (simp (disch := omega) only [go_sem, ↓reduceIte, Nat.reduceEqDiff, Nat.reduceLT, Nat.reduceLeDiff, Nat.reduceAdd, Nat.reduceMul, Nat.reduceSub, reduceCtorEq, Nat.reduceBEq, Int.reduceToNat, Int.reducePow, if_pos, if_neg, q1] <;> rfl))) | ((with_reducible first | apply SC.condB | apply SC.region | apply SO.run | apply DO.run); (focus (simp (disch := omega) only [go_sem, ↓reduceIte, Nat.reduceEqDiff, Nat.reduceLT, Nat.reduceLeDiff, Nat.reduceAdd, reduceCtorEq, if_neg, q1] <;> rfl)); (first | refine pickT ?_ | refine pickF ?_ | fail_if_success with_reducible refine pickA ?_)) | ((with_reducible refine SC.draw Tab.mixed ?_ ?_); (focus (first | rfl | simp (disch := omega) only [go_sem, ↓reduceIte, Nat.reduceEqDiff, Nat.reduceLT, Nat.reduceLeDiff, Nat.reduceAdd, Nat.reduceMul, Nat.reduceSub, reduceCtorEq, Nat.reduceBEq, Int.reduceToNat, Int.reducePow, if_pos, if_neg, q1]))) | (with_reducible apply SC.ops)))
        exact retQ_ret Try.results41 (by simp (disch := omega) only [go_sem, ↓reduceIte, Nat.reduceEqDiff, Nat.reduceLeDiff, Nat.reduceAdd, if_neg] <;> rfl) (by simp (disch := omega) only [go_sem, ↓reduceIte, if_pos, if_neg, hfz, hsl, ht, g1] <;> rfl) rfl
theorem rprod_s {h n w K : Nat} {A C : List (List Int)} (hA : MI h n K A) (hC : MI n w K C) (hK : K ≤ 1000000) (hn : h ≤ 1000000) (hnn : n ≤ 1000000) (hw : w ≤ 1000000) :
    Spec Try.prog 16 [mat n A, mat w C] (mat w (mulM h n w A C)) := by
  have c0 := rmul_s hA hC hK hn hnn hw
  unfold mat at *
  refine Spec.run Try.func16 rfl Try.ntmps16 (by simp) (by simp (disch := omega) only [go_sem, Nat.reduceAdd]; rfl) fun B hB => ?_
  (repeat (first | refine DO.nilF (fun i => i + 1 - nx) (by simp (disch := omega) only [go_sem, ↓reduceIte, Nat.reduceEqDiff, Nat.reduceLT, Nat.reduceLeDiff, Nat.reduceAdd, Nat.reduceMul, Nat.reduceSub, reduceCtorEq, Nat.reduceBEq, Int.reduceToNat, Int.reducePow, if_pos, if_neg, List.map_cons, List.map_nil, Option.map_some, Option.map_none, Nat.add_sub_cancel_left, Nat.sub_eq_zero_of_le, Nat.add_assoc, Nat.reduceAdd] <;> rfl) (by kernel_rfl) ?_ | (with_reducible first | apply oz1 | apply oz2 | apply oz3 | apply oz4 | apply oz5 | apply oz6 | apply oz7 | apply oz8 | apply oz9 | apply ozb | apply ozc | apply oze | apply ozf | apply ozg | apply ozh | apply ozi | apply ozj | apply ozk | refine ozd (by decide) ?_) | ((first | apply SO.call | apply DO.call); (iterate 3 (focus (simp (disch := omega) only [go_sem, ↓reduceIte, Nat.reduceEqDiff] <;> rfl))); (first | apply SCall.ofX | apply DCall.ofX); (focus (first | assumption)); (focus (simp (disch := omega) only [go_sem] <;> rfl))) | ((with_reducible first | apply SC.condB | apply SC.region | apply SO.run | apply DO.run); (focus (simp (disch := omega) only [go_sem, ↓reduceIte, Nat.reduceEqDiff, Nat.reduceLT, Nat.reduceLeDiff, Nat.reduceAdd, reduceCtorEq] <;> rfl)); (first | refine pickT ?_ | refine pickF ?_ | fail_if_success with_reducible refine pickA ?_)) | ((with_reducible refine SC.draw Tab.mixed ?_ ?_); (focus (first | rfl | simp (disch := omega) only [go_sem, ↓reduceIte, Nat.reduceEqDiff, Nat.reduceLT, Nat.reduceLeDiff, Nat.reduceAdd, Nat.reduceMul, Nat.reduceSub, reduceCtorEq, Nat.reduceBEq, Int.reduceToNat, Int.reducePow, if_pos, if_neg]))) | (with_reducible apply SC.ops)))
  exact retQ_ret Try.results16 (by simp (disch := omega) only [go_sem, ↓reduceIte, Nat.reduceEqDiff, Nat.reduceLeDiff, Nat.reduceAdd] <;> rfl) (by simp (disch := omega) only [go_sem, ↓reduceIte] <;> rfl) rfl
end Go.Proofs.Ytfhcmibgpddggaa

/- Invert, Undo, Matrix. -/
namespace Go.Proofs.Ytfhcmibgpddggaa
open Go.RowKit
theorem mkOps : mkOf Try.prog 31 = some (56, 56, [.int .i64 0, .int .i64 0, .int .i64 0, .bool false, .slice none 0 0]) := by kernel_rfl
@[go_sem high] theorem exMake_ops {n nx : Nat} (hn : n ≤ 2000000) : exMake Try.prog 31 nx (.sc (.int .i64 0)) (.sc (.int .i64 (n : Int))) = some (.sl nx 0 0 5 (some n), .new ⟨56, reps n [.sc (.int .i64 0), .sc (.int .i64 0), .sc (.int .i64 0), .sc (.bool false), .sc (.slice none 0 0)], false⟩) := by
  have hc : (0:Int) ≤ 0 ∧ (0:Int) ≤ (n:Int) ∧ (n:Int) < 1125899906842624 ∧ ((56 : Nat) : Int) * (n:Int) ≤ 140737488355328 := ⟨by omega, by omega, by omega, by omega⟩
  rw [exMake_eq, mkOps, Option.bind_some]; exact if_pos hc
theorem reps1 (l : List V) : reps 1 l = l := by unfold reps; split <;> simp
theorem opsC_app (a b : List OpL) : opsC (a ++ b) = opsC a ++ opsC b := by
  induction a with
  | nil => rfl
  | cons x r ih => rw [List.cons_append, opsC, opsC, ih, List.append_assoc]
theorem opsC_one (l : List OpL) : (opsC l).all V.one = true := by
  induction l with
  | nil => rfl
  | cons x r ih => rw [opsC, List.all_append, ih]; rfl
theorem opsC_clo (l : List OpL) : (opsC l).all clo = true := by
  induction l with
  | nil => rfl
  | cons x r ih => rw [opsC, List.all_append, ih]; rfl
end Go.Proofs.Ytfhcmibgpddggaa

/- Invert, Undo, Matrix: the walks. -/
namespace Go.Proofs.Ytfhcmibgpddggaa
open Go.RowKit
attribute [-go_sem] exMake_eq
theorem imatrix_s {n : Nat} {l : List OpL} (hl : ∀ o ∈ l, OkOp n o) (hK : l.length ≤ 1000) (hn : n ≤ 64) :
    Spec Try.prog 13 [.im (opsC l) l.length, .sc (.int .i64 n)] (.tu [mat n (actsO (idL n) l), .sc (.int .i64 0)]) := by
  have c1 := pident_s n (by omega)
  have c2 := iapply_s (h := n) (w := n) (K := 1) (M := idL n) (mk_mi fun r c _ _ => fits01) hl (by omega) (by omega) (by omega)
  have q1 : decide ((n : Int) < 0) = false := decide_eq_false (by omega)
  have q2 : decide ((64 : Int) < (n : Int)) = false := decide_eq_false (by omega)
  generalize idL n = I at *
  generalize actsO I l = F at *
  unfold mat at *
  refine Spec.run Try.func13 rfl Try.ntmps13 (by simp) (by simp (disch := omega) only [go_sem, Nat.reduceAdd]; rfl) fun B hB => ?_
  (repeat (first | refine DO.nil (by kernel_rfl) ?_ | (with_reducible first | apply oz1 | apply oz2 | apply oz3 | apply oz4 | apply oz5 | apply oz6 | apply oz7 | apply oz8 | apply oz9 | apply ozb | apply ozc | apply oze | apply ozf | apply ozg | apply ozh | apply ozi | apply ozj | apply ozk | refine ozd (by decide) ?_) | ((first | apply SO.call | apply DO.call); (iterate 3 (focus (simp (disch := omega) only [go_sem, ↓reduceIte, Nat.reduceEqDiff] <;> rfl))); (first | apply SCall.ofX | apply DCall.ofX); (focus (first | assumption)); (focus (simp (disch := omega) only [go_sem] <;> rfl))) | ((with_reducible first | apply SC.condB | apply SC.region | apply SO.run | apply DO.run); (focus (simp (disch := omega) only [go_sem, ↓reduceIte, Nat.reduceEqDiff, Nat.reduceLT, Nat.reduceLeDiff, Nat.reduceAdd, reduceCtorEq, q1, q2] <;> rfl)); (first | refine pickT ?_ | refine pickF ?_ | fail_if_success with_reducible refine pickA ?_)) | ((with_reducible refine SC.draw Tab.mixed ?_ ?_); (focus (first | rfl | simp (disch := omega) only [go_sem, ↓reduceIte, Nat.reduceEqDiff, Nat.reduceLT, Nat.reduceLeDiff, Nat.reduceAdd, Nat.reduceMul, Nat.reduceSub, reduceCtorEq, Nat.reduceBEq, Int.reduceToNat, Int.reducePow, if_pos, if_neg, q1, q2]))) | (with_reducible apply SC.ops)))
  exact retQ_ret Try.results13 (by simp (disch := omega) only [go_sem, ↓reduceIte, Nat.reduceEqDiff, Nat.reduceLeDiff, Nat.reduceAdd] <;> rfl) (by simp (disch := omega) only [go_sem, ↓reduceIte] <;> rfl) rfl
end Go.Proofs.Ytfhcmibgpddggaa

/- Plain law: operations on rows and the product. -/
namespace Go.Proofs.Ytfhcmibgpddggaa
open Go.RowKit
theorem dot_congr {f f' g g' : Nat → Int} : ∀ {n : Nat}, (∀ t, t < n → f t = f' t ∧ g t = g' t) → dotI f g n = dotI f' g' n
  | 0, _ => rfl
  | n + 1, h => by
    rw [dotI, dotI, dot_congr (fun t ht => h t (by omega)), (h n (by omega)).1, (h n (by omega)).2]
theorem dot_neg {f g : Nat → Int} : ∀ {n : Nat}, dotI (fun t => -(f t)) g n = -(dotI f g n)
  | 0 => rfl
  | n + 1 => by rw [dotI, dotI, dot_neg, Int.neg_add, Int.neg_mul]
theorem dot_add {f e g : Nat → Int} {k : Int} : ∀ {n : Nat}, dotI (fun t => f t + k * e t) g n = dotI f g n + k * dotI e g n
  | 0 => by simp [dotI]
  | n + 1 => by
    rw [dotI, dotI, dotI, dot_add, Int.mul_add, Int.add_mul, Int.mul_assoc]; omega
theorem dot_unit {g : Nat → Int} {r : Nat} : ∀ {n : Nat}, dotI (fun t => if r = t then 1 else 0) g n = if r < n then g r else 0
  | 0 => by simp [dotI]
  | n + 1 => by
    rw [dotI, dot_unit]
    by_cases e : r = n
    · subst e; simp
    · rw [if_neg e]
      by_cases h : r < n
      · rw [if_pos h, if_pos (by omega)]; simp
      · rw [if_neg h, if_neg (by omega)]; simp
theorem ent_mk {h w r c : Nat} {f : Nat → Nat → Int} (hr : r < h) (hc : c < w) : ent2 (mkM h w f) r c = f r c := by
  unfold ent2; rw [mkM_get hr, mkR_get hc]
theorem mat_ent {h w K K' : Nat} {A C : List (List Int)} (hA : MI h w K A) (hC : MI h w K' C) (he : ∀ r c, r < h → c < w → ent2 A r c = ent2 C r c) : A = C := by
  rw [← mkM_of hA, ← mkM_of hC]
  exact mkM_congr he
theorem act_ent {h w K : Nat} {M : List (List Int)} (hM : MI h w K M) {o : OpL} (ho : OkOp h o) {r c : Nat} (hr : r < h) (hc : c < w) :
    ent2 (actO M o) r c = if o.kd = 1 then (if r = o.j then ent2 M o.i c else if r = o.i then ent2 M o.j c else ent2 M r c) else if o.kd = 2 then (if r = o.i then -(ent2 M r c) else ent2 M r c) else (if r = o.i then ent2 M r c + o.k * ent2 M o.j c else ent2 M r c) := by
  have hl := hM.len
  have hi := ho.i
  unfold actO
  by_cases h1 : o.kd = 1
  · have hj : o.j < h := by rcases ho.c with ⟨_, hj, _⟩ | ⟨e, _⟩ | ⟨e, _⟩ <;> omega
    rw [if_pos h1, if_pos h1]
    unfold ent2
    rw [swapI_get (by omega) (by omega)]
    by_cases a : r = o.j
    · rw [if_pos a, if_pos a]
    · rw [if_neg a, if_neg a]
      by_cases b : r = o.i
      · rw [if_pos b, if_pos b]
      · rw [if_neg b, if_neg b]
  · rw [if_neg h1, if_neg h1]
    by_cases h2 : o.kd = 2
    · rw [if_pos h2, if_pos h2]
      unfold ent2
      rw [getD_set (by omega)]
      by_cases b : r = o.i
      · rw [if_pos b, if_pos b, negI_get (by rw [(hM.get hi).1]; exact hc), b]
      · rw [if_neg b, if_neg b]
    · rw [if_neg h2, if_neg h2]
      unfold ent2
      rw [getD_set (by omega)]
      by_cases b : r = o.i
      · rw [if_pos b, if_pos b, addI_get (by rw [(hM.get hi).1]; exact hc), b]
      · rw [if_neg b, if_neg b]
end Go.Proofs.Ytfhcmibgpddggaa

/- Plain law: a list of operations is the product with its matrix; the inverse list undoes. -/
namespace Go.Proofs.Ytfhcmibgpddggaa
open Go.RowKit
theorem mul_mi {h n w K : Nat} {A C : List (List Int)} (hA : MI h n K A) (hC : MI n w K C) (hn : n ≤ 1000000) : MI h w (2 * K + 1) (mulM h n w A C) :=
  mk_mi fun _ _ hr hc => dot_fits hn fun _ ht => ⟨hA.fit hr ht, hC.fit ht hc⟩
theorem act_mul {h n w K : Nat} {A C : List (List Int)} (hA : MI h n K A) (hC : MI n w K C) (hn : n ≤ 1000000) {o : OpL} (ho : OkOp h o) : actO (mulM h n w A C) o = mulM h n w (actO A o) C := by
  have hA' := hA.act ho
  have hC' := hC.mono (Nat.le_add_right K 2)
  have hM := mul_mi hA hC hn
  refine mat_ent (hM.act ho) (mul_mi hA' hC' hn) fun r c hr hc => ?_
  rw [act_ent hM ho hr hc]
  have hi := ho.i
  unfold mulM
  rw [ent_mk hr hc, ent_mk hr hc]
  have e : ∀ t, t < n → ent2 (actO A o) r t = _ := fun t ht => act_ent hA ho hr ht
  by_cases h1 : o.kd = 1
  · have hj : o.j < h := by rcases ho.c with ⟨_, hj, _⟩ | ⟨e, _⟩ | ⟨e, _⟩ <;> omega
    rw [if_pos h1]
    rw [ent_mk hi hc, ent_mk hj hc]
    by_cases a : r = o.j
    · rw [if_pos a]
      exact dot_congr fun t ht => ⟨by rw [e t ht, if_pos h1, if_pos a], rfl⟩
    · rw [if_neg a]
      by_cases b : r = o.i
      · rw [if_pos b]
        exact dot_congr fun t ht => ⟨by rw [e t ht, if_pos h1, if_neg a, if_pos b], rfl⟩
      · rw [if_neg b]
        exact dot_congr fun t ht => ⟨by rw [e t ht, if_pos h1, if_neg a, if_neg b], rfl⟩
  · rw [if_neg h1]
    by_cases h2 : o.kd = 2
    · rw [if_pos h2]
      by_cases b : r = o.i
      · rw [if_pos b, ← dot_neg]
        exact dot_congr fun t ht => ⟨by rw [e t ht, if_neg h1, if_pos h2, if_pos b], rfl⟩
      · rw [if_neg b]
        exact dot_congr fun t ht => ⟨by rw [e t ht, if_neg h1, if_pos h2, if_neg b], rfl⟩
    · have hj : o.j < h := by rcases ho.c with ⟨e, _⟩ | ⟨e, _⟩ | ⟨_, hj, _⟩ <;> omega
      rw [if_neg h2]
      by_cases b : r = o.i
      · rw [if_pos b, ent_mk hj hc, ← dot_add]
        exact dot_congr fun t ht => ⟨by rw [e t ht, if_neg h1, if_neg h2, if_pos b], rfl⟩
      · rw [if_neg b]
        exact dot_congr fun t ht => ⟨by rw [e t ht, if_neg h1, if_neg h2, if_neg b], rfl⟩
theorem acts_mul {h n w : Nat} (hn : n ≤ 1000000) : ∀ {l : List OpL} {K : Nat} {A C : List (List Int)}, MI h n K A → MI n w K C → (∀ o ∈ l, OkOp h o) → actsO (mulM h n w A C) l = mulM h n w (actsO A l) C
  | [], _, _, _, _, _, _ => rfl
  | o :: l, K, A, C, hA, hC, hl => by
    rw [actsO, actsO, act_mul hA hC hn (hl o (by simp))]
    exact acts_mul hn (hA.act (hl o (by simp))) (hC.mono (Nat.le_add_right K 2)) fun p hp => hl p (by simp [hp])
theorem id_mul {h w K : Nat} {A : List (List Int)} (hA : MI h w K A) : mulM h h w (idL h) A = A := by
  rw [← mkM_of hA]
  unfold mulM
  refine mkM_congr fun r c hr hc => ?_
  rw [dot_congr (f' := fun t => if r = t then 1 else 0) (g' := fun t => ent2 A t c) fun t ht => ⟨by unfold idL; rw [ent_mk hr ht], by unfold ent2; rw [mkM_of hA]⟩, dot_unit, if_pos hr]
  rfl
theorem actsO_app : ∀ (a b : List OpL) (M : List (List Int)), actsO M (a ++ b) = actsO (actsO M a) b
  | [], _, _ => rfl
  | o :: a, b, M => by rw [List.cons_append, actsO, actsO, actsO_app a b]
theorem acts_mi {h w : Nat} : ∀ {l : List OpL} {K : Nat} {M : List (List Int)}, MI h w K M → (∀ o ∈ l, OkOp h o) → MI h w (K + 2 * l.length) (actsO M l)
  | [], _, _, hM, _ => hM
  | o :: l, K, M, hM, hl => by
    rw [actsO]
    exact (acts_mi (hM.act (hl o (by simp))) fun p hp => hl p (by simp [hp])).mono (by rw [List.length_cons]; omega)
end Go.Proofs.Ytfhcmibgpddggaa
