/- 'ModmatEchelon' returns true for every input, and each argument reads afterwards as it read before. No conditions. -/
import Derived.Test.YtpbomhmflllemaaRows
import Derived.Test.YtpbomhmflllemaaZc
import Derived.Test.YtpbomhmflllemaaZi
set_option linter.all false

namespace Go.Proofs.Ytpbomhmflllemaa
open Go.ChangeShapes Go.WideShapes Go.ChangeAt Go.RowKit

def shownL (r : List Nat) (cs : List Nat) : List Nat := cs.map fun c => r.getD c 0
theorem shown_snoc {r cs : List Nat} {k : Nat} (h : k < cs.length) : nv (shownL r (cs.take k)) ++ [V.sc (.int .u64 ((r.getD (cs.getD k 0) 0 : Nat) : Int))] = nv (shownL r (cs.take (k + 1))) := by
  rw [take_snoc (d := 0) h]; simp [nv, shownL]
theorem shown_len {r cs : List Nat} {k : Nat} (h : k ≤ cs.length) : (nv (shownL r (cs.take k))).length = k := by
  simp [nv, shownL]; omega

set_option maxRecDepth 20000 in
set_option maxHeartbeats 8000000 in
theorem mech_s {p n w kp kc : Nat} {M L : List (List Nat)} (hm : Mm p n w M) (m1 : Spec Try.prog 12 [rawV kp kc L] (md p w M)) :
    Spec Try.prog 4 [rawV kp kc L] (.sc (.bool true)) := by
  obtain ⟨hp, hle, hpr, hM, hn, hw⟩ := hm
  have hp1 := hp.1
  have hne : NeZero p := ⟨by omega⟩
  have cs := sanity_s pr5
  have hl := hM.1
  have c1 := rref_s hpr hp hle hM (by omega) (by omega)
  obtain ⟨hF, hS⟩ := rrefL_form hp hM
  have hrk := rank_le hp hM
  generalize (rrefL p w M).1 = E1 at *
  generalize (rrefL p w M).2 = E2 at *
  have hR := hF.mv
  have hRl := hR.1
  have hE := hF.ech
  have c2 := rvalid_t hp (by omega) hR (by omega) (by omega)
  have hact : ∀ i, i < n → actL p w (shownL (M.getD i []) E2) E1 = M.getD i [] := fun i hi => by
    have hsp := hS.1 i (by omega)
    rw [hRl] at hsp
    have hco := hE.coef hsp
    refine act_eq hR (hM.get hi) (by simp [shownL]) fun j hj => ?_
    rw [show fR p (M.getD i []) j = fM p M i j from rfl, hco j hj]
    refine sg_congr fun k hk => ?_
    congr 1
    unfold fM ent fR shownL
    rw [List.getD_eq_getElem?_getD (l := E2.map _), List.getElem?_map, getD_get' (d := 0) hk]
    rfl
  have hshr : ∀ i, i < n → Rw p E2.length (shownL (M.getD i []) E2) := fun i hi => by
    refine ⟨by simp [shownL], fun x hx => ?_⟩
    obtain ⟨c, hc, rfl⟩ := List.mem_map.1 hx
    obtain ⟨k, hk, rfl⟩ := List.mem_iff_getElem.1 hc
    have := hE.lt k hk
    rw [List.getD_eq_getElem?_getD, List.getElem?_eq_getElem hk] at this
    exact (hM.get hi).lt this
  have cact : ∀ i, i < n → Spec Try.prog 27 [.im (nv (shownL (M.getD i []) E2)) E2.length, md p w E1] (.im (nv (M.getD i [])) w) := fun i hi => by
    have := ract_s (p := p) (by omega) (by omega) hR (hshr i hi) (by omega) (by omega)
    rwa [hact i hi] at this
  have crow : ∀ i, i < n → Spec Try.prog 26 [.im (nv (M.getD i [])) w, .im (nv (M.getD i [])) w] (.sc (.bool true)) := fun i hi => rrow_t (hM.get hi).1 (by omega)
  have csol : ∀ i, i < E2.length → ∃ x, Spec Try.prog 25 [md p w M, .im (nv (E1.getD i [])) w] (.tu [.im x n, .sc (.bool true)]) := fun i hi => by
    have h := solve_s hpr hp hle hM (hR.get hi) (by omega) (by omega)
    have hsp := hS.2 i (by omega)
    rw [hl] at hsp
    have hsome := (solve_iff hp hM (hR.get hi)).2 hsp
    cases hs : solveL p w M (E1.getD i []) with
    | none => rw [hs] at hsome; cases hsome
    | some x => rw [hs] at h; exact ⟨nv x, h⟩
  have czero : ∀ i, i < E2.length → Spec Try.prog 24 [.im (nv ((E1.getD i []).take (E2.getD i 0))) (E2.getD i 0)] (.sc (.bool true)) := fun i hi => by
    have hci := hE.lt i hi
    have hri := hR.get hi
    have hlen : ((E1.getD i []).take (E2.getD i 0)).length = E2.getD i 0 := by rw [List.length_take, hri.1]; omega
    have h := rzero_s hlen (by omega)
    have hz : zeroL ((E1.getD i []).take (E2.getD i 0)) = true := zeroL_iff.2 fun j hj => by
      rw [hlen] at hj
      have h0 := hE.low i j hi hj
      have hx : fz p ((E1.getD i []).getD j 0) = 0 := h0
      rw [List.getD_eq_getElem?_getD, List.getElem?_take, if_pos hj, ← List.getD_eq_getElem?_getD]
      exact fz_inj (hri.lt (by omega)) (by omega) (by rw [hx, fz_zero])
    rwa [hz] at h
  have hpiv : ∀ i k, i < E2.length → k < E2.length → (E1.getD k []).getD (E2.getD i 0) 0 = if i = k then 1 else 0 := fun i k hi hk => by
    have h0 := hE.piv k i hk hi
    have hx : fz p ((E1.getD k []).getD (E2.getD i 0) 0) = if k = i then 1 else 0 := h0
    refine fz_inj ((hR.get hk).lt (hE.lt i hi)) (by split <;> omega) ?_
    rw [hx]
    by_cases e : i = k
    · rw [if_pos e, if_pos e.symm, fz_one]
    · rw [if_neg e, if_neg (fun h => e h.symm), fz_zero]
  unfold rawV at *
  unfold md mv at *
  rw [hl] at m1 c1 csol
  simp only [hRl] at c1 c2 cact
  have g1 := imR_len w E1
  rw [hRl] at g1
  have g2 := wv_len E2
  have g3 := imR_len w M
  refine Spec.run Try.func4 rfl Try.ntmps4 (by simp) (by simp (disch := omega) only [go_sem]; rfl) fun B hB => ?_
  (repeat (first | refine DO.nil (by kernel_rfl) ?_ | (with_reducible first | apply oz1 | apply oz2 | apply oz3 | apply oz4 | apply oz5 | apply oz6 | apply oz7 | apply oz8 | apply oz9 | apply ozb | apply ozc | apply oze | apply ozf | apply ozg | apply ozh | apply ozi | apply ozj | apply ozk | refine ozd (by decide) ?_) | ((first | apply SO.call | apply DO.call); (iterate 3 (focus (simp (disch := omega) only [go_sem, ↓reduceIte] <;> rfl))); (first | apply SCall.ofX | apply DCall.ofX); (focus (first | assumption)); (focus (simp (disch := omega) only [go_sem] <;> rfl))) | ((with_reducible first | apply SC.condB | apply SC.region | apply SO.run | apply DO.run); (focus (simp (disch := omega) only [go_sem, ↓reduceIte, Nat.reduceEqDiff, Nat.reduceLeDiff, Nat.reduceAdd, reduceCtorEq, bne_self_eq_false] <;> rfl)); (first | refine pickT ?_ | refine pickF ?_ | fail_if_success with_reducible refine pickA ?_)) | ((with_reducible refine SC.draw Tab.mixed ?_ ?_); (focus (first | rfl | simp (disch := omega) only [go_sem, ↓reduceIte, Nat.reduceEqDiff, Nat.reduceLT, Nat.reduceLeDiff, Nat.reduceAdd, Nat.reduceMul, Nat.reduceSub, reduceCtorEq, Nat.reduceBEq, Int.reduceToNat, Int.reducePow, if_pos, if_neg, bne_self_eq_false]))) | (with_reducible apply SC.ops)))
  refine SC.loop (fun i : Nat => ⟨[(3, .sc (.bool true)), (4, .pt 1 0), (5, .pt 2 0), (6, .im (wv E2) E2.length), (7, .sc (.int .i64 i))], [(2, ⟨29, [.sc (.int .u64 p), .sc (.int .i64 w), .im (imR w (nR E1)) E2.length], false⟩), (1, ⟨29, [.sc (.int .u64 p), .sc (.int .i64 w), .im (imR w (nR M)) n], false⟩)], 3, 171⟩)
    (fun i => i ≤ E2.length) (fun i => E2.length - i) 0 ?_ ?_ ?_
  · (refine Le.slots ?_ ?_ ?_ <;> (repeat' (first | (exact fun _ _ h => h) | exact Nat.le_refl _ | exact leSl_nil | refine leSl_cons (by simp (disch := omega) only [go_sem, ↓reduceIte, Nat.reduceEqDiff] <;> rfl) ?_ ?_ | exact VLe.junk _ | exact VLe.refl rfl | exact VLe.nil_sl _ _ _ | exact VLe.int (by first | rfl | omega | (dsimp only; omega)) | exact VLe.bool rfl | exact VLe.sl rfl (by first | rfl | omega) | exact VLe.cap rfl (by first | rfl | omega) | exact VLe.im rfl rfl | omega | (refine fun id k h => ?_; simp only [hget] at h ⊢; (repeat' (split at h)) <;> first | (cases h; done) | (simp (disch := omega) only [if_pos, if_neg]; exact h)))))
  · exact Nat.zero_le _
  · intro i hi K hK
    by_cases hc : i < E2.length
    · have q2 := decide_eq_true (p := (i : Int) < (E2.length : Int)) (by omega)
      obtain ⟨x, d1⟩ := csol i hc
      have d2 := czero i hc
      have hci := hE.lt i hc
      have hri := hR.get hc
      have h1 := wv_get (r := E2) (j := i) hc
      have h2 := imR_get (w := w) (M := E1) (i := i) (by omega)
      have h3 := nv_len (E1.getD i [])
      rw [hri.1] at h3
      have h4 : (nv (E1.getD i [])).take (E2.getD i 0) = nv ((E1.getD i []).take (E2.getD i 0)) := by simp [nv, List.map_take]
      have hpk := fun k hk => hpiv i k hc hk
      have q3 : decide ((E2.getD i 0 : Int) < 0) = false := decide_eq_false (by omega)
      have q4 : decide ((E2.getD i 0 : Int) ≥ (w : Int)) = false := decide_eq_false (by omega)
      have hinc := fun k hk => hE.inc k i hk hc
      have q5 : ∀ c : Nat, decide ((c : Int) > 0) = decide (0 < c) := fun c => by simp
      have q6 : decide ((i : Int) > 0) = decide (0 < i) := by simp
      have key : ∀ k, k < E2.length → E2.getD k 0 < 2147483648 := fun k hk => by have := hE.lt k hk; omega
      have h5 : ∀ i1, i = i1 + 1 → (wv E2)[i1]? = some (.sc (.int .i64 (E2.getD i1 0 : Nat))) ∧ decide (((E2.getD i1 0 : Nat) : Int) ≥ (E2.getD i 0 : Nat)) = false ∧ ((i : Int) - 1).toNat = i1 := fun i1 e => ⟨wv_get (by omega), decide_eq_false (by have := hinc i1 (by omega); omega), by omega⟩
      generalize hcc : E2.getD i 0 = c at *
      by_cases hi0 : i = 0
      case' pos =>
        have q7 : decide ((i : Int) > 0) = false := decide_eq_false (by omega)
        (repeat (first | refine DO.nil (by kernel_rfl) ?_ | (with_reducible first | apply oz1 | apply oz2 | apply oz3 | apply oz4 | apply oz5 | apply oz6 | apply oz7 | apply oz8 | apply oz9 | apply ozb | apply ozc | apply oze | apply ozf | apply ozg | apply ozh | apply ozi | apply ozj | apply ozk | refine ozd (by decide) ?_) | ((first | apply SO.call | apply DO.call); (iterate 3 (focus (simp (disch := omega) only [go_sem, ↓reduceIte, Nat.reduceEqDiff] <;> rfl))); (first | apply SCall.ofX | apply DCall.ofX); (focus (first | assumption)); (focus (simp (disch := omega) only [go_sem] <;> rfl))) | ((with_reducible first | apply SC.condB | apply SC.region | apply SO.run | apply DO.run); (focus (simp (disch := omega) only [go_sem, ↓reduceIte, Nat.reduceEqDiff, reduceCtorEq, if_pos, q2, q3, q4, q7, g1, g2, h1, h2, h4, List.getElem?_drop] <;> rfl)); (first | refine pickT ?_ | refine pickF ?_ | fail_if_success with_reducible refine pickA ?_)) | ((with_reducible refine SC.draw Tab.mixed ?_ ?_); (focus (first | rfl | simp (disch := omega) only [go_sem, ↓reduceIte, Nat.reduceEqDiff, Nat.reduceLT, Nat.reduceLeDiff, Nat.reduceAdd, Nat.reduceMul, Nat.reduceSub, reduceCtorEq, Nat.reduceBEq, Int.reduceToNat, Int.reducePow, if_pos, if_neg, q2, q3, q4, q7, g1, g2, h1, h2, h3, h4, List.getElem?_drop]))) | (with_reducible apply SC.ops)))
      case' neg =>
        obtain ⟨i1, hi1⟩ : ∃ i1, i = i1 + 1 := ⟨i - 1, by omega⟩
        obtain ⟨h6, h7, h8⟩ := h5 i1 hi1
        have q7 : decide ((i : Int) > 0) = true := decide_eq_true (by omega)
        (repeat (first | refine DO.nil (by kernel_rfl) ?_ | (with_reducible first | apply oz1 | apply oz2 | apply oz3 | apply oz4 | apply oz5 | apply oz6 | apply oz7 | apply oz8 | apply oz9 | apply ozb | apply ozc | apply oze | apply ozf | apply ozg | apply ozh | apply ozi | apply ozj | apply ozk | refine ozd (by decide) ?_) | ((first | apply SO.call | apply DO.call); (iterate 3 (focus (simp (disch := omega) only [go_sem, ↓reduceIte, Nat.reduceEqDiff] <;> rfl))); (first | apply SCall.ofX | apply DCall.ofX); (focus (first | assumption)); (focus (simp (disch := omega) only [go_sem] <;> rfl))) | ((with_reducible first | apply SC.condB | apply SC.region | apply SO.run | apply DO.run); (focus (simp (disch := omega) only [go_sem, ↓reduceIte, Nat.reduceEqDiff, reduceCtorEq, if_pos, q2, q3, q4, q7, g1, g2, h1, h2, h4, h6, h7, h8, List.getElem?_drop] <;> rfl)); (first | refine pickT ?_ | refine pickF ?_ | fail_if_success with_reducible refine pickA ?_)) | ((with_reducible refine SC.draw Tab.mixed ?_ ?_); (focus (first | rfl | simp (disch := omega) only [go_sem, ↓reduceIte, Nat.reduceEqDiff, Nat.reduceLT, Nat.reduceLeDiff, Nat.reduceAdd, Nat.reduceMul, Nat.reduceSub, reduceCtorEq, Nat.reduceBEq, Int.reduceToNat, Int.reducePow, if_pos, if_neg, q2, q3, q4, q7, g1, g2, h1, h2, h3, h4, h6, h7, h8, List.getElem?_drop]))) | (with_reducible apply SC.ops)))
      all_goals
        refine SC.loop (fun k : Nat => ⟨[(3, .sc (.bool true)), (4, .pt 1 0), (5, .pt 2 0), (6, .im (wv E2) E2.length), (7, .sc (.int .i64 i)), (8, .sc (.int .i64 k))], [(2, ⟨29, [.sc (.int .u64 p), .sc (.int .i64 w), .im (imR w (nR E1)) E2.length], false⟩), (1, ⟨29, [.sc (.int .u64 p), .sc (.int .i64 w), .im (imR w (nR M)) n], false⟩)], 3, 171⟩)
          (fun k => k ≤ E2.length) (fun k => E2.length - k) 0 ?_ (Nat.zero_le _) ?_
        · (refine Le.slots ?_ ?_ ?_ <;> (repeat' (first | (exact fun _ _ h => h) | exact Nat.le_refl _ | exact leSl_nil | refine leSl_cons (by simp (disch := omega) only [go_sem, ↓reduceIte, Nat.reduceEqDiff] <;> rfl) ?_ ?_ | exact VLe.junk _ | exact VLe.refl rfl | exact VLe.nil_sl _ _ _ | exact VLe.int (by first | rfl | omega | (dsimp only; omega)) | exact VLe.bool rfl | exact VLe.sl rfl (by first | rfl | omega) | exact VLe.cap rfl (by first | rfl | omega) | exact VLe.im rfl rfl | omega | (refine fun id k h => ?_; simp only [hget] at h ⊢; (repeat' (split at h)) <;> first | (cases h; done) | (simp (disch := omega) only [if_pos, if_neg]; exact h)))))
        intro k hk K2 hK2
        by_cases hck : k < E2.length
        · have r1 := decide_eq_true (p := (k : Int) < (E2.length : Int)) (by omega)
          have r2 := imR_get (w := w) (M := E1) (i := k) (by omega)
          have hrk := hR.get hck
          have r3 := nv_get (r := E1.getD k []) (j := c) (by rw [hrk.1]; exact hci)
          have r4 := nv_len (E1.getD k [])
          rw [hrk.1] at r4
          rw [hpk k hck] at r3
          by_cases hik : i = k
          · have r5 : ((i : Int) == (k : Int)) = true := by rw [hik]; simp
            have r6 : (((1 : Nat) : Int) != 1) = false := rfl
            rw [if_pos hik] at r3
            (repeat (first | refine DO.nil (by kernel_rfl) ?_ | (with_reducible first | apply oz1 | apply oz2 | apply oz3 | apply oz4 | apply oz5 | apply oz6 | apply oz7 | apply oz8 | apply oz9 | apply ozb | apply ozc | apply oze | apply ozf | apply ozg | apply ozh | apply ozi | apply ozj | apply ozk | refine ozd (by decide) ?_) | ((first | apply SO.call | apply DO.call); (iterate 3 (focus (simp (disch := omega) only [go_sem, ↓reduceIte, Nat.reduceEqDiff, Nat.reduceLT, Nat.reduceLeDiff, Nat.reduceAdd, Nat.reduceMul, Nat.reduceSub, reduceCtorEq, Nat.reduceBEq, Int.reduceToNat, Int.reducePow, if_pos, if_neg, r1, r5, r6, g1, g2, h1, r2, r3, r4, List.getElem?_drop] <;> rfl))); (first | apply SCall.ofX | apply DCall.ofX); (focus (first | assumption)); (focus (simp (disch := omega) only [go_sem, ↓reduceIte, Nat.reduceEqDiff, Nat.reduceLT, Nat.reduceLeDiff, Nat.reduceAdd, Nat.reduceMul, Nat.reduceSub, reduceCtorEq, Nat.reduceBEq, Int.reduceToNat, Int.reducePow, if_pos, if_neg, r1, r5, r6, g1, g2, h1, r2, r3, r4, List.getElem?_drop] <;> rfl))) | ((with_reducible first | apply SC.condB | apply SC.region | apply SO.run | apply DO.run); (focus (simp (disch := omega) only [go_sem, ↓reduceIte, Nat.reduceEqDiff, reduceCtorEq, if_pos, r1, r5, r6, g1, g2, h1, r2, r3, r4, List.getElem?_drop] <;> rfl)); (first | refine pickT ?_ | refine pickF ?_ | fail_if_success with_reducible refine pickA ?_)) | ((with_reducible refine SC.draw Tab.mixed ?_ ?_); (focus (first | rfl | simp (disch := omega) only [go_sem, ↓reduceIte, Nat.reduceEqDiff, Nat.reduceLT, Nat.reduceLeDiff, Nat.reduceAdd, Nat.reduceMul, Nat.reduceSub, reduceCtorEq, Nat.reduceBEq, Int.reduceToNat, Int.reducePow, if_pos, if_neg, r1, r5, r6, g1, g2, h1, r2, r3, r4, List.getElem?_drop]))) | (with_reducible apply SC.ops)))
            refine hK2 _ (k + 1) ?_ (by omega) (by omega)
            (refine Le.slots ?_ ?_ ?_ <;> (repeat' (first | (exact fun _ _ h => h) | exact Nat.le_refl _ | exact leSl_nil | refine leSl_cons (by simp (disch := omega) only [go_sem, ↓reduceIte, Nat.reduceEqDiff] <;> rfl) ?_ ?_ | exact VLe.junk _ | exact VLe.refl rfl | exact VLe.nil_sl _ _ _ | exact VLe.int (by first | rfl | omega | (dsimp only; omega)) | exact VLe.bool rfl | exact VLe.sl rfl (by first | rfl | omega) | exact VLe.cap rfl (by first | rfl | omega) | exact VLe.im rfl rfl | omega | (refine fun id k h => ?_; simp only [hget] at h ⊢; (repeat' (split at h)) <;> first | (cases h; done) | (simp (disch := omega) only [if_pos, if_neg]; exact h)))))
          · have r5 : ((i : Int) == (k : Int)) = false := by rw [beq_eq_false_iff_ne]; omega
            have r6 : (((0 : Nat) : Int) != 0) = false := rfl
            rw [if_neg hik] at r3
            (repeat (first | refine DO.nil (by kernel_rfl) ?_ | (with_reducible first | apply oz1 | apply oz2 | apply oz3 | apply oz4 | apply oz5 | apply oz6 | apply oz7 | apply oz8 | apply oz9 | apply ozb | apply ozc | apply oze | apply ozf | apply ozg | apply ozh | apply ozi | apply ozj | apply ozk | refine ozd (by decide) ?_) | ((first | apply SO.call | apply DO.call); (iterate 3 (focus (simp (disch := omega) only [go_sem, ↓reduceIte, Nat.reduceEqDiff, Nat.reduceLT, Nat.reduceLeDiff, Nat.reduceAdd, Nat.reduceMul, Nat.reduceSub, reduceCtorEq, Nat.reduceBEq, Int.reduceToNat, Int.reducePow, if_pos, if_neg, r1, r5, r6, g1, g2, h1, r2, r3, r4, List.getElem?_drop] <;> rfl))); (first | apply SCall.ofX | apply DCall.ofX); (focus (first | assumption)); (focus (simp (disch := omega) only [go_sem, ↓reduceIte, Nat.reduceEqDiff, Nat.reduceLT, Nat.reduceLeDiff, Nat.reduceAdd, Nat.reduceMul, Nat.reduceSub, reduceCtorEq, Nat.reduceBEq, Int.reduceToNat, Int.reducePow, if_pos, if_neg, r1, r5, r6, g1, g2, h1, r2, r3, r4, List.getElem?_drop] <;> rfl))) | ((with_reducible first | apply SC.condB | apply SC.region | apply SO.run | apply DO.run); (focus (simp (disch := omega) only [go_sem, ↓reduceIte, Nat.reduceEqDiff, reduceCtorEq, if_pos, r1, r5, r6, g1, g2, h1, r2, r3, r4, List.getElem?_drop] <;> rfl)); (first | refine pickT ?_ | refine pickF ?_ | fail_if_success with_reducible refine pickA ?_)) | ((with_reducible refine SC.draw Tab.mixed ?_ ?_); (focus (first | rfl | simp (disch := omega) only [go_sem, ↓reduceIte, Nat.reduceEqDiff, Nat.reduceLT, Nat.reduceLeDiff, Nat.reduceAdd, Nat.reduceMul, Nat.reduceSub, reduceCtorEq, Nat.reduceBEq, Int.reduceToNat, Int.reducePow, if_pos, if_neg, r1, r5, r6, g1, g2, h1, r2, r3, r4, List.getElem?_drop]))) | (with_reducible apply SC.ops)))
            refine hK2 _ (k + 1) ?_ (by omega) (by omega)
            (refine Le.slots ?_ ?_ ?_ <;> (repeat' (first | (exact fun _ _ h => h) | exact Nat.le_refl _ | exact leSl_nil | refine leSl_cons (by simp (disch := omega) only [go_sem, ↓reduceIte, Nat.reduceEqDiff] <;> rfl) ?_ ?_ | exact VLe.junk _ | exact VLe.refl rfl | exact VLe.nil_sl _ _ _ | exact VLe.int (by first | rfl | omega | (dsimp only; omega)) | exact VLe.bool rfl | exact VLe.sl rfl (by first | rfl | omega) | exact VLe.cap rfl (by first | rfl | omega) | exact VLe.im rfl rfl | omega | (refine fun id k h => ?_; simp only [hget] at h ⊢; (repeat' (split at h)) <;> first | (cases h; done) | (simp (disch := omega) only [if_pos, if_neg]; exact h)))))
        · have r1 := decide_eq_false (p := (k : Int) < (E2.length : Int)) (by omega)
          (repeat (first | refine DO.nil (by kernel_rfl) ?_ | (with_reducible first | apply oz1 | apply oz2 | apply oz3 | apply oz4 | apply oz5 | apply oz6 | apply oz7 | apply oz8 | apply oz9 | apply ozb | apply ozc | apply oze | apply ozf | apply ozg | apply ozh | apply ozi | apply ozj | apply ozk | refine ozd (by decide) ?_) | ((first | apply SO.call | apply DO.call); (iterate 3 (focus (simp (disch := omega) only [go_sem, ↓reduceIte, Nat.reduceEqDiff] <;> rfl))); (first | apply SCall.ofX | apply DCall.ofX); (focus (first | assumption)); (focus (simp (disch := omega) only [go_sem] <;> rfl))) | ((with_reducible first | apply SC.condB | apply SC.region | apply SO.run | apply DO.run); (focus (simp (disch := omega) only [go_sem, ↓reduceIte, Nat.reduceEqDiff, Nat.reduceLeDiff, Nat.reduceAdd, reduceCtorEq, if_pos, r1, g1, h2, List.getElem?_drop] <;> rfl)); (first | refine pickT ?_ | refine pickF ?_ | fail_if_success with_reducible refine pickA ?_)) | ((with_reducible refine SC.draw Tab.mixed ?_ ?_); (focus (first | rfl | simp (disch := omega) only [go_sem, ↓reduceIte, Nat.reduceEqDiff, Nat.reduceLT, Nat.reduceLeDiff, Nat.reduceAdd, Nat.reduceMul, Nat.reduceSub, reduceCtorEq, Nat.reduceBEq, Int.reduceToNat, Int.reducePow, if_pos, if_neg, r1, g1, h2, List.getElem?_drop]))) | (with_reducible apply SC.ops)))
          refine hK _ (i + 1) ?_ (by omega) (by omega)
          (refine Le.slots ?_ ?_ ?_ <;> (repeat' (first | (exact fun _ _ h => h) | exact Nat.le_refl _ | exact leSl_nil | refine leSl_cons (by simp (disch := omega) only [go_sem, ↓reduceIte, Nat.reduceEqDiff] <;> rfl) ?_ ?_ | exact VLe.junk _ | exact VLe.refl rfl | exact VLe.nil_sl _ _ _ | exact VLe.int (by first | rfl | omega | (dsimp only; omega)) | exact VLe.bool rfl | exact VLe.sl rfl (by first | rfl | omega) | exact VLe.cap rfl (by first | rfl | omega) | exact VLe.im rfl rfl | omega | (refine fun id k h => ?_; simp only [hget] at h ⊢; (repeat' (split at h)) <;> first | (cases h; done) | (simp (disch := omega) only [if_pos, if_neg]; exact h)))))
    · have q2 := decide_eq_false (p := (i : Int) < (E2.length : Int)) (by omega)
      (repeat (first | refine DO.nil (by kernel_rfl) ?_ | (with_reducible first | apply oz1 | apply oz2 | apply oz3 | apply oz4 | apply oz5 | apply oz6 | apply oz7 | apply oz8 | apply oz9 | apply ozb | apply ozc | apply oze | apply ozf | apply ozg | apply ozh | apply ozi | apply ozj | apply ozk | refine ozd (by decide) ?_) | ((first | apply SO.call | apply DO.call); (iterate 3 (focus (simp (disch := omega) only [go_sem, ↓reduceIte, Nat.reduceEqDiff, Nat.reduceLT, Nat.reduceLeDiff, Nat.reduceAdd, Nat.reduceMul, Nat.reduceSub, reduceCtorEq, Nat.reduceBEq, Int.reduceToNat, Int.reducePow, if_pos, if_neg, q2] <;> rfl))); (first | apply SCall.ofX | apply DCall.ofX); (focus (first | assumption)); (focus (simp (disch := omega) only [go_sem, ↓reduceIte, Nat.reduceEqDiff, Nat.reduceLT, Nat.reduceLeDiff, Nat.reduceAdd, Nat.reduceMul, Nat.reduceSub, reduceCtorEq, Nat.reduceBEq, Int.reduceToNat, Int.reducePow, if_pos, if_neg, q2] <;> rfl))) | ((with_reducible first | apply SC.condB | apply SC.region | apply SO.run | apply DO.run); (focus (simp (disch := omega) only [go_sem, ↓reduceIte, Nat.reduceEqDiff, q2] <;> rfl)); (first | refine pickT ?_ | refine pickF ?_ | fail_if_success with_reducible refine pickA ?_)) | ((with_reducible refine SC.draw Tab.mixed ?_ ?_); (focus (first | rfl | simp (disch := omega) only [go_sem, ↓reduceIte, Nat.reduceEqDiff, Nat.reduceLT, Nat.reduceLeDiff, Nat.reduceAdd, Nat.reduceMul, Nat.reduceSub, reduceCtorEq, Nat.reduceBEq, Int.reduceToNat, Int.reducePow, if_pos, if_neg, q2]))) | (with_reducible apply SC.ops)))
      refine SC.loop (fun i : Nat => ⟨[(3, .sc (.bool true)), (4, .pt 1 0), (5, .pt 2 0), (6, .im (wv E2) E2.length), (12, .sc (.int .i64 i))], [(2, ⟨29, [.sc (.int .u64 p), .sc (.int .i64 w), .im (imR w (nR E1)) E2.length], false⟩), (1, ⟨29, [.sc (.int .u64 p), .sc (.int .i64 w), .im (imR w (nR M)) n], false⟩)], 3, 171⟩)
        (fun i => i ≤ n) (fun i => n - i) 0 ?_ ?_ ?_
      · (refine Le.slots ?_ ?_ ?_ <;> (repeat' (first | (exact fun _ _ h => h) | exact Nat.le_refl _ | exact leSl_nil | refine leSl_cons (by simp (disch := omega) only [go_sem, ↓reduceIte, Nat.reduceEqDiff] <;> rfl) ?_ ?_ | exact VLe.junk _ | exact VLe.refl rfl | exact VLe.nil_sl _ _ _ | exact VLe.int (by first | rfl | omega | (dsimp only; omega)) | exact VLe.bool rfl | exact VLe.sl rfl (by first | rfl | omega) | exact VLe.cap rfl (by first | rfl | omega) | exact VLe.im rfl rfl | omega | (refine fun id k h => ?_; simp only [hget] at h ⊢; (repeat' (split at h)) <;> first | (cases h; done) | (simp (disch := omega) only [if_pos, if_neg]; exact h)))))
      · exact Nat.zero_le _
      · intro i hi K2 hK2
        by_cases hcn : i < n
        · have q3 := decide_eq_true (p := (i : Int) < (n : Int)) (by omega)
          have d1 := cact i hcn
          have d2 := crow i hcn
          have h1 := imR_get (w := w) (M := M) (i := i) (by omega)
          have hri := hM.get hcn
          have h2 := nv_len (M.getD i [])
          rw [hri.1] at h2
          generalize hrr : M.getD i [] = r at *
          (repeat (first | refine DO.nil (by kernel_rfl) ?_ | (with_reducible first | apply oz1 | apply oz2 | apply oz3 | apply oz4 | apply oz5 | apply oz6 | apply oz7 | apply oz8 | apply oz9 | apply ozb | apply ozc | apply oze | apply ozf | apply ozg | apply ozh | apply ozi | apply ozj | apply ozk | refine ozd (by decide) ?_) | ((first | apply SO.call | apply DO.call); (iterate 3 (focus (simp (disch := omega) only [go_sem, ↓reduceIte, Nat.reduceEqDiff, Nat.reduceLT, Nat.reduceLeDiff, Nat.reduceAdd, Nat.reduceMul, Nat.reduceSub, reduceCtorEq, Nat.reduceBEq, Int.reduceToNat, Int.reducePow, if_pos, if_neg, q3] <;> rfl))); (first | apply SCall.ofX | apply DCall.ofX); (focus (first | assumption)); (focus (simp (disch := omega) only [go_sem, ↓reduceIte, Nat.reduceEqDiff, Nat.reduceLT, Nat.reduceLeDiff, Nat.reduceAdd, Nat.reduceMul, Nat.reduceSub, reduceCtorEq, Nat.reduceBEq, Int.reduceToNat, Int.reducePow, if_pos, if_neg, q3] <;> rfl))) | ((with_reducible first | apply SC.condB | apply SC.region | apply SO.run | apply DO.run); (focus (simp (disch := omega) only [go_sem, ↓reduceIte, Nat.reduceEqDiff, Nat.reduceLeDiff, Nat.reduceAdd, reduceCtorEq, q3] <;> rfl)); (first | refine pickT ?_ | refine pickF ?_ | fail_if_success with_reducible refine pickA ?_)) | ((with_reducible refine SC.draw Tab.mixed ?_ ?_); (focus (first | rfl | simp (disch := omega) only [go_sem, ↓reduceIte, Nat.reduceEqDiff, Nat.reduceLT, Nat.reduceLeDiff, Nat.reduceAdd, Nat.reduceMul, Nat.reduceSub, reduceCtorEq, Nat.reduceBEq, Int.reduceToNat, Int.reducePow, if_pos, if_neg, q3]))) | (with_reducible apply SC.ops)))
          refine SC.loop (fun k : Nat => ⟨[(3, .sc (.bool true)), (4, .pt 1 0), (5, .pt 2 0), (6, .im (wv E2) E2.length), (12, .sc (.int .i64 i)), (13, .sl 3 0 k 1 none), (14, .sc (.int .i64 k))], [(3, ⟨26, nv (shownL r (E2.take k)), false⟩), (2, ⟨29, [.sc (.int .u64 p), .sc (.int .i64 w), .im (imR w (nR E1)) E2.length], false⟩), (1, ⟨29, [.sc (.int .u64 p), .sc (.int .i64 w), .im (imR w (nR M)) n], false⟩)], 4, 171⟩)
            (fun k => k ≤ E2.length) (fun k => E2.length - k) 0 ?_ ?_ ?_
          · (refine Le.slots ?_ ?_ ?_ <;> (repeat' (first | (exact fun _ _ h => h) | exact Nat.le_refl _ | exact leSl_nil | refine leSl_cons (by simp (disch := omega) only [go_sem, ↓reduceIte, Nat.reduceEqDiff] <;> rfl) ?_ ?_ | exact VLe.junk _ | exact VLe.refl rfl | exact VLe.nil_sl _ _ _ | exact VLe.int (by first | rfl | omega | (dsimp only; omega)) | exact VLe.bool rfl | exact VLe.sl rfl (by first | rfl | omega) | exact VLe.cap rfl (by first | rfl | omega) | exact VLe.im rfl rfl | omega | (refine fun id k h => ?_; simp only [hget] at h ⊢; (repeat' (split at h)) <;> first | (cases h; done) | (simp (disch := omega) only [if_pos, if_neg]; exact h)))))
          · exact Nat.zero_le _
          · intro k hk K3 hK3
            have u1 := shown_len (r := r) hk
            have u2 : (nv (shownL r (E2.take k))).take k = nv (shownL r (E2.take k)) := List.take_of_length_le (by omega)
            by_cases hck : k < E2.length
            · have q4 := decide_eq_true (p := (k : Int) < (E2.length : Int)) (by omega)
              have h3 := wv_get (r := E2) (j := k) hck
              have h4 := nv_get (r := r) (j := E2.getD k 0) (by have h9 : E2.getD k 0 < w := hE.lt k hck; have := hri.1; omega)
              have h5 := shown_snoc (r := r) hck
              have hck2 := hE.lt k hck
              generalize E2.getD k 0 = c at *
              (repeat (first | refine DO.nil (by kernel_rfl) ?_ | (with_reducible first | apply oz1 | apply oz2 | apply oz3 | apply oz4 | apply oz5 | apply oz6 | apply oz7 | apply oz8 | apply oz9 | apply ozb | apply ozc | apply oze | apply ozf | apply ozg | apply ozh | apply ozi | apply ozj | apply ozk | refine ozd (by decide) ?_) | ((first | apply SO.call | apply DO.call); (iterate 3 (focus (simp (disch := omega) only [go_sem, ↓reduceIte, Nat.reduceEqDiff, Nat.reduceLT, Nat.reduceLeDiff, Nat.reduceAdd, Nat.reduceMul, Nat.reduceSub, reduceCtorEq, Nat.reduceBEq, Int.reduceToNat, Int.reducePow, if_pos, if_neg, q4, g2, g3, hl, h1, h2, h3, h4, h5, u1, u2, List.getElem?_drop] <;> rfl))); (first | apply SCall.ofX | apply DCall.ofX); (focus (first | assumption)); (focus (simp (disch := omega) only [go_sem, ↓reduceIte, Nat.reduceEqDiff, Nat.reduceLT, Nat.reduceLeDiff, Nat.reduceAdd, Nat.reduceMul, Nat.reduceSub, reduceCtorEq, Nat.reduceBEq, Int.reduceToNat, Int.reducePow, if_pos, if_neg, q4, g2, g3, hl, h1, h2, h3, h4, h5, u1, u2, List.getElem?_drop] <;> rfl))) | ((with_reducible first | apply SC.condB | apply SC.region | apply SO.run | apply DO.run); (focus (simp (disch := omega) only [go_sem, ↓reduceIte, Nat.reduceEqDiff, Nat.reduceLeDiff, Nat.reduceAdd, reduceCtorEq, if_pos, q4, g2, g3, hl, h1, h2, h3, h4, h5, u1, u2, List.getElem?_drop] <;> rfl)); (first | refine pickT ?_ | refine pickF ?_ | fail_if_success with_reducible refine pickA ?_)) | ((with_reducible refine SC.draw Tab.mixed ?_ ?_); (focus (first | rfl | simp (disch := omega) only [go_sem, ↓reduceIte, Nat.reduceEqDiff, Nat.reduceLT, Nat.reduceLeDiff, Nat.reduceAdd, Nat.reduceMul, Nat.reduceSub, reduceCtorEq, Nat.reduceBEq, Int.reduceToNat, Int.reducePow, if_pos, if_neg, q4, g2, g3, hl, h1, h2, h3, h4, h5, u1, u2, List.getElem?_drop]))) | (with_reducible apply SC.ops)))
              refine hK3 _ (k + 1) ?_ (by omega) (by omega)
              refine Le.ren 3 5 hB (by omega) (by omega) (by omega) ?_ ?_
              · (repeat' (first | exact trivial | refine mapSl_cons (by simp (disch := omega) only [go_sem, ↓reduceIte, Nat.reduceEqDiff] <;> rfl) ?_ ?_ | exact VMap.junk _ | exact VMap.sc _ | exact VMap.clo rfl | exact VMap.sl rfl (by omega) | exact VMap.cap rfl (by omega) | exact VMap.pt rfl (by omega) | exact VMap.nil_sl _ _ _ | exact VMap.int (by first | rfl | omega | (dsimp only; omega))))
              · (repeat' (first | exact mapHp_nil | refine mapHp_cons (by simp (disch := omega) only [go_sem, ↓reduceIte, Nat.reduceEqDiff] <;> rfl) ?_ ?_ | exact BMap.clo (by first | rfl | assumption | exact wv_clo _ | exact imR_clo _ _ | exact nv_clo _) | refine BMap.list ?_ | exact mapL_nil | refine mapL_cons ?_ ?_ | exact VMap.junk _ | exact VMap.sc _ | exact VMap.clo rfl | exact VMap.sl rfl (by omega) | exact VMap.cap rfl (by omega) | exact VMap.pt rfl (by omega) | exact VMap.nil_sl _ _ _ | exact VMap.int (by first | rfl | omega | (dsimp only; omega))))
            · have q4 := decide_eq_false (p := (k : Int) < (E2.length : Int)) (by omega)
              have hke : k = E2.length := by omega
              rw [hke] at q4 u1 u2 ⊢
              rw [List.take_of_length_le (Nat.le_refl _)] at u1 u2 ⊢
              have u3 := nv_clo (shownL r E2)
              (repeat (first | refine DO.nil (by kernel_rfl) ?_ | (with_reducible first | apply oz1 | apply oz2 | apply oz3 | apply oz4 | apply oz5 | apply oz6 | apply oz7 | apply oz8 | apply oz9 | apply ozb | apply ozc | apply oze | apply ozf | apply ozg | apply ozh | apply ozi | apply ozj | apply ozk | refine ozd (by decide) ?_) | ((first | apply SO.call | apply DO.call); (iterate 3 (focus (simp (disch := omega) only [go_sem, ↓reduceIte, Nat.reduceEqDiff, if_pos, u1, u2, u3] <;> rfl))); (first | apply SCall.ofX | apply DCall.ofX); (focus (first | assumption)); (focus (simp (disch := omega) only [go_sem, ↓reduceIte, Nat.reduceBEq] <;> rfl))) | ((with_reducible first | apply SC.condB | apply SC.region | apply SO.run | apply DO.run); (focus (simp (disch := omega) only [go_sem, ↓reduceIte, Nat.reduceEqDiff, Nat.reduceLeDiff, Nat.reduceAdd, reduceCtorEq, if_pos, q4, g3, hl, h1, List.getElem?_drop] <;> rfl)); (first | refine pickT ?_ | refine pickF ?_ | fail_if_success with_reducible refine pickA ?_)) | ((with_reducible refine SC.draw Tab.mixed ?_ ?_); (focus (first | rfl | simp (disch := omega) only [go_sem, ↓reduceIte, Nat.reduceEqDiff, Nat.reduceLT, Nat.reduceLeDiff, Nat.reduceAdd, Nat.reduceMul, Nat.reduceSub, reduceCtorEq, Nat.reduceBEq, Int.reduceToNat, Int.reducePow, if_pos, if_neg, q4, g3, hl, h1, u1, u2, u3, List.getElem?_drop]))) | (with_reducible apply SC.ops)))
              refine hK2 _ (i + 1) ?_ (by omega) (by omega)
              (refine Le.of [] hB (by first | exact ⟨Nat.zero_le _, fun _ _ => Nat.zero_le _⟩ | (constructor <;> (try simp) <;> (try omega))) ?_ ?_ <;> (repeat' (first | exact leSl_nil | exact leHp_nil | refine leSl_cons (by simp (disch := omega) only [go_sem, ↓reduceIte, Nat.reduceEqDiff]; rfl) ?_ ?_ | refine leHp_cons (by simp (disch := omega) only [go_sem, ↓reduceIte, Nat.reduceEqDiff]; rfl) ?_ ?_ | exact VLe.junk _ | exact VLe.refl rfl | exact VLe.nil_sl _ _ _ | exact VLe.int (by first | rfl | omega | (dsimp only; omega)) | exact VLe.bool rfl | exact VLe.sl rfl (by first | rfl | omega | (dsimp only; omega) | (simp; done)) | exact VLe.cap rfl (by first | rfl | omega | (dsimp only; omega) | (simp; done)) | exact VLe.im rfl rfl | exact HLe.new rfl | exact HLe.same rfl (LLe.refl rfl) | refine HLe.same rfl ?_ | exact LLe.nil _ | exact LLe.refl rfl | refine LLe.cons ?_ ?_)))
        · have q3 := decide_eq_false (p := (i : Int) < (n : Int)) (by omega)
          (repeat (first | refine DO.nil (by kernel_rfl) ?_ | (with_reducible first | apply oz1 | apply oz2 | apply oz3 | apply oz4 | apply oz5 | apply oz6 | apply oz7 | apply oz8 | apply oz9 | apply ozb | apply ozc | apply oze | apply ozf | apply ozg | apply ozh | apply ozi | apply ozj | apply ozk | refine ozd (by decide) ?_) | ((first | apply SO.call | apply DO.call); (iterate 3 (focus (simp (disch := omega) only [go_sem, ↓reduceIte, Nat.reduceEqDiff, Nat.reduceLT, Nat.reduceLeDiff, Nat.reduceAdd, Nat.reduceMul, Nat.reduceSub, reduceCtorEq, Nat.reduceBEq, Int.reduceToNat, Int.reducePow, if_pos, if_neg, q3] <;> rfl))); (first | apply SCall.ofX | apply DCall.ofX); (focus (first | assumption)); (focus (simp (disch := omega) only [go_sem, ↓reduceIte, Nat.reduceEqDiff, Nat.reduceLT, Nat.reduceLeDiff, Nat.reduceAdd, Nat.reduceMul, Nat.reduceSub, reduceCtorEq, Nat.reduceBEq, Int.reduceToNat, Int.reducePow, if_pos, if_neg, q3] <;> rfl))) | ((with_reducible first | apply SC.condB | apply SC.region | apply SO.run | apply DO.run); (focus (simp (disch := omega) only [go_sem, ↓reduceIte, Nat.reduceEqDiff, Nat.reduceLT, reduceCtorEq, q3] <;> rfl)); (first | refine pickT ?_ | refine pickF ?_ | fail_if_success with_reducible refine pickA ?_)) | ((with_reducible refine SC.draw Tab.mixed ?_ ?_); (focus (first | rfl | simp (disch := omega) only [go_sem, ↓reduceIte, Nat.reduceEqDiff, Nat.reduceLT, Nat.reduceLeDiff, Nat.reduceAdd, Nat.reduceMul, Nat.reduceSub, reduceCtorEq, Nat.reduceBEq, Int.reduceToNat, Int.reducePow, if_pos, if_neg, q3]))) | (with_reducible apply SC.ops)))
          exact retQ_ret Try.results4 (by simp (disch := omega) only [go_sem, ↓reduceIte]; rfl) (by simp (disch := omega) only [go_sem]; rfl) rfl

theorem spec_all (xs : List V) (h : Shp.Vals [.st [.int .u8, .int .u8, .slc (.slc (.int .u32))]] xs) : Spec Try.prog 4 xs (.sc (.bool true)) := by
  obtain ⟨x0, ys0, rfl, h0, rfl⟩ := h
  obtain ⟨p, n, w, M, kp, kc, L, hm, rfl, m1⟩ := made_val h0
  exact mech_s hm m1

theorem own : ownKnob Try.prog.godebug = none := by kernel_rfl
theorem laidOut : laidOutB Try.prog = true := by kernel_rfl

set_option maxRecDepth 100000 in
theorem law_lifted (os : Os) (started : os.Started) (H : Type) (enc : TypeId × Value → H) :
    ReturnsInHanded {} Try.checked os 4 .any (Rows.modmatEchelonSpec.pre6 enc Try.prog Try.f4 Rows.modmatEchelonRow.domain false) (Rows.modmatEchelonSpec.post enc Try.prog Try.f4 false true false false) := by
  refine returnsInHanded_of_change (C := Try.checked) own started (by kernel_rfl) Try.func4
    (ChangeSpec.witness6 (enc := enc) (C := Try.checked) false ⟨#[], #[.agg #[.int .u8 0, .int .u8 0, .slice none 0 0]], []⟩ 8 (by kernel_rfl) (by kernel_rfl) (by kernel_rfl) (by kernel_rfl)) ?_
  intro W base args ds gs before hval0 hW hcnd _
  have hW' := hW
  obtain ⟨p, q, hA0, hV, rfl, hfz, hnd⟩ := hW
  obtain ⟨hl, hc⟩ := law_calls (enc := enc) [.st [.int .u8, .int .u8, .slc (.slc (.int .u32))]] (by kernel_rfl) hval0 hA0 (fun g cs h => by cases h) spec_all
  refine hc.mono fun e W' ⟨he, hb⟩ => ?_
  subst he
  rw [show Try.f4.params.size = 1 by kernel_rfl] at hl
  obtain ⟨d0, rfl⟩ : ∃ d0, ds = [d0] := by
    match ds, hl with
    | [a0], _ => exact ⟨a0, rfl⟩
  exact ⟨_, rfl, law_post laidOut (by kernel_rfl) (by kernel_rfl) Try.underlying4 rfl rfl hW' hb⟩

theorem law_holds : Rows.ModmatEchelonSaid :=
  OpenClaim.holds_of_wide 4 Try.f4 rfl rfl rfl rfl rfl rfl rfl ⟨rfl, rfl, rfl, rfl, rfl⟩ rfl rfl rfl rfl rfl (by kernel_rfl) Try.func4 (by kernel_rfl)
    (of_decide_eq_true (by kernel_rfl)) (by unfold Func.isWrapper; first | (rw [if_pos (by decide +kernel)]; kernel_rfl) | (rw [if_neg (by decide +kernel)]; exact ⟨rfl, rfl⟩))
    (fun os started H enc _ => law_lifted os started H enc)
#print axioms law_holds
end Go.Proofs.Ytpbomhmflllemaa
