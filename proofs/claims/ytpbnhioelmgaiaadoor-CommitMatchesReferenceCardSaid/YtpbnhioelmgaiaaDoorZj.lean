/- Texts joined: Cac Cad Cae. -/
import Derived.Test.YtpbnhioelmgaiaaDoorZi
set_option linter.all false
open Nat renaming reduceEqDiff → zn1, reduceLT → zn2, reduceLeDiff → zn3, reduceAdd → zn4, reduceMul → zn5, reduceSub → zn6, reduceBEq → zn7
open Int renaming reduceToNat → zi1, reducePow → zi2
namespace Go.Proofs.YtpbnhioelmgaiaaDoor
open Go.RowKit
def seg (l : List (List Int)) (f n : Nat) : List (List Int) := (l.drop f).take n
theorem seg_len {l : List (List Int)} {f n : Nat} (h : f + n ≤ l.length) : (seg l f n).length = n := by unfold seg; rw [List.length_take, List.length_drop]; omega
theorem seg_take {l : List (List Int)} {f n k : Nat} (h : k ≤ n) : (seg l f n).take k = seg l f k := by unfold seg; rw [List.take_take, Nat.min_eq_left h]
theorem seg_drop {l : List (List Int)} {f n k : Nat} : (seg l f n).drop k = seg l (f + k) (n - k) := by unfold seg; rw [List.drop_take, List.drop_drop]
theorem seg_dg {l : List (List Int)} (h : Dgs l) (f n : Nat) : Dgs (seg l f n) := (h.drop f).take n
def pvF (l : List (List Int)) (v : Nat × Nat × Bool) : List Int := treeF 101 (seg l v.1 (v.2.1 - v.1))
theorem pvF_dg {l : List (List Int)} (h : Dgs l) (v : Nat × Nat × Bool) : Dg (pvF l v) := treeF_dg _ (seg_dg h _ _)
theorem pvs_dg {l : List (List Int)} (h : Dgs l) (vs : List (Nat × Nat × Bool)) : Dgs (vs.map (pvF l)) := fun d hd => by
  obtain ⟨v, _, rfl⟩ := List.mem_map.1 hd
  exact pvF_dg h v
theorem dgC_sc (l : List (List Int)) : ∀ y ∈ dgC l, ∃ v, y = .sc v := fun y hy => by
  obtain ⟨d, _, hy⟩ := List.mem_flatMap.1 hy
  obtain ⟨x, _, rfl⟩ := List.mem_map.1 hy
  exact ⟨_, rfl⟩
theorem visN_le : ∀ (N n i f : Nat), n ≤ N → (visN n i f).length ≤ n
  | 0, n, i, f, h => by rw [visN_one (by omega)]; exact Nat.zero_le _
  | N + 1, n, i, f, h => by
    by_cases h1 : 1 < n
    · have hh := halfN_lt h1
      by_cases hi : i < halfN n
      · have := visN_le N (halfN n) i f (by omega)
        rw [visN_l h1 hi, List.length_append, List.length_singleton]; omega
      · have := visN_le N (n - halfN n) (i - halfN n) (f + halfN n) (by omega)
        rw [visN_r h1 hi, List.length_append, List.length_singleton]; omega
    · rw [visN_one h1]; exact Nat.zero_le _
set_option maxHeartbeats 8000000 in
set_option maxRecDepth 8000 in
theorem rpath_s {l : List (List Int)} (hd : Dgs l) (hl : l.length ≤ 100) : ∀ (N n i f : Nat), n ≤ N → i ≤ 1000000 → f + n ≤ l.length →
    NewP Tryd.prog 32 [.im (dgC (seg l f n)) n, .sc (.int .i64 i)] ⟨25, dgC ((visN n i f).map (pvF l)), false⟩ 0 (visN n i f).length 32 none := by
  intro N
  induction N with
  | zero =>
    intro n i f hn hi hf
    refine NewP.ofQ (dgC_sc _) ?_
    have h0 : n = 0 := by omega
    subst h0
    rw [visN_one (by omega)]
    refine InlQ.run Tryd.func32 rfl Tryd.ntmps32 (by simp) (by simp (disch := omega) only [go_sem, ↓reduceIte, zn1, zn2, zn3, zn4, zn5, zn6, reduceCtorEq, zn7, zi1, zi2, if_pos, if_neg]; rfl) fun B hB => ?_
    (repeat (first | refine DO.nil (by kernel_rfl) ?_ | (with_reducible first | apply oz1 | apply oz2 | apply oz3 | apply oz4 | apply oz5 | apply oz6 | apply oz7 | apply oz8 | apply oz9 | apply ozb | apply ozc | apply oze | apply ozf | apply ozg | apply ozh | apply ozi | apply ozj | apply ozk | refine ozd (by decide) ?_) | ((first | apply SO.call | apply DO.call); (iterate 3 (focus (simp (disch := omega) only [go_sem, ↓reduceIte, zn1, zn2, zn3, zn4, zn5, zn6, reduceCtorEq, zn7, zi1, zi2, if_pos, if_neg] <;> rfl))); (first | apply SCall.ofX | apply DCall.ofX); (focus (first | assumption)); (focus (simp (disch := omega) only [go_sem, ↓reduceIte, zn1, zn2, zn3, zn4, zn5, zn6, reduceCtorEq, zn7, zi1, zi2, if_pos, if_neg] <;> rfl))) | ((with_reducible first | apply SC.condB | apply SC.region | apply SO.run | apply DO.run); (focus (simp (disch := omega) only [go_sem, ↓reduceIte, zn1, zn2, zn3, zn4, zn5, zn6, reduceCtorEq, zn7, zi1, zi2, if_pos, if_neg] <;> rfl)); (first | refine pickT ?_ | refine pickF ?_ | fail_if_success with_reducible refine pickA ?_)) | ((with_reducible refine SC.draw Tab.mixed ?_ ?_); (focus (first | rfl | simp (disch := omega) only [go_sem, ↓reduceIte, zn1, zn2, zn3, zn4, zn5, zn6, reduceCtorEq, zn7, zi1, zi2, if_pos, if_neg]))) | (with_reducible apply SC.ops)))
    refine retIQ_ret (.sl 0 0 0 32 none) [(0, ⟨25, [], false⟩)] 1 Tryd.results32 (by simp (disch := omega) only [go_sem, ↓reduceIte, zn1, zn2, zn3, zn4, zn5, zn6, reduceCtorEq, zn7, zi1, zi2, if_pos, if_neg]; rfl) ⟨0, by omega, rfl, rfl⟩ ?_
    (refine Le.slots ?_ ?_ ?_ <;> (repeat' (first | (exact fun _ _ h => h) | exact Nat.le_refl _ | exact leSl_nil | refine leSl_cons (by simp (disch := omega) only [go_sem, ↓reduceIte, zn1, zn2, zn3, zn4, zn5, zn6, reduceCtorEq, zn7, zi1, zi2, if_pos, if_neg] <;> rfl) ?_ ?_ | exact VLe.junk _ | exact VLe.refl rfl | exact VLe.nil_sl _ _ _ | exact VLe.int (by first | rfl | omega | (dsimp only; omega)) | exact VLe.bool rfl | exact VLe.sl rfl (by first | rfl | omega) | exact VLe.cap rfl (by first | rfl | omega) | exact VLe.im rfl rfl | omega | (refine fun id k h => ?_; simp only [hget] at h ⊢; (repeat' (split at h)) <;> first | (cases h; done) | (simp (disch := omega) only [if_pos, if_neg]; exact h)))))
  | succ N ih =>
    intro n i f hn hi hf
    refine NewP.ofQ (dgC_sc _) ?_
    by_cases h1 : 1 < n
    · have q1 : decide ((n : Int) < 2) = false := decide_eq_false (by omega)
      obtain ⟨hh1, hh2⟩ := halfN_lt h1
      have c0 := rhalf_s (n := n) (by omega) (by omega)
      have hg := seg_dg hd f n
      obtain ⟨s1, s2⟩ := dgC_split hg (halfN n)
      rw [seg_take (by omega)] at s1
      rw [seg_drop] at s2
      have gl : (dgC (seg l f n)).length = n * 32 := by rw [dgC_len hg, seg_len hf]
      have gl2 : (dgC (seg l (f + halfN n) (n - halfN n))).length = (n - halfN n) * 32 := by rw [dgC_len (seg_dg hd _ _), seg_len (by omega)]
      have gt2 : (dgC (seg l (f + halfN n) (n - halfN n))).take ((n - halfN n) * 32) = dgC (seg l (f + halfN n) (n - halfN n)) := List.take_of_length_le (by omega)
      by_cases hih : i < halfN n
      · have q2 : decide ((i : Int) < ((halfN n : Nat) : Int)) = true := decide_eq_true (by omega)
        have a1 := ih (halfN n) i f (by omega) (by omega) (by omega)
        have c1 := rtree_s 100 (seg_dg hd (f + halfN n) (n - halfN n)) (by rw [seg_len (by omega)]; omega) (by rw [seg_len (by omega)]; omega)
        rw [seg_len (by omega)] at c1
        rw [visN_l h1 hih, List.map_append, dgC_app, List.length_append, List.length_singleton]
        have e1 : dgC ([(f + halfN n, f + n, false)].map (pvF l)) = bw (treeF 101 (seg l (f + halfN n) (n - halfN n))) := by
          show bw (treeF 101 (seg l (f + halfN n) (f + n - (f + halfN n)))) ++ [] = _
          rw [List.append_nil, show f + n - (f + halfN n) = n - halfN n by omega]
        rw [e1]
        have hT := treeF_dg 101 (seg_dg hd (f + halfN n) (n - halfN n))
        generalize treeF 101 (seg l (f + halfN n) (n - halfN n)) = T at *
        have gP := dgC_len (pvs_dg hd (visN (halfN n) i f))
        rw [List.length_map] at gP
        have gcl : (dgC ((visN (halfN n) i f).map (pvF l)) ++ bw T).all clo = true := by rw [List.all_append, dgC_clo, bw_clo]; rfl
        generalize dgC ((visN (halfN n) i f).map (pvF l)) = P0 at *
        have hmb := visN_le _ (halfN n) i f (Nat.le_refl _)
        generalize (visN (halfN n) i f).length = m at *
        have tP : P0.take (m * 32) = P0 := List.take_of_length_le (by omega)
        have gT : (bw T).length = 32 := by rw [bw_len, hT.1]
        have tT : (bw T).take 32 = bw T := List.take_of_length_le (by omega)
        have fT := bw_fl1 T
        have cT := bw_clo T
        have oT := bw_one T
        generalize dgC (seg l (f + halfN n) (n - halfN n)) = D2 at *
        generalize dgC (seg l f (halfN n)) = D1 at *
        generalize dgC (seg l f n) = D0 at *
        generalize halfN n = k at *
        refine InlQ.run Tryd.func32 rfl Tryd.ntmps32 (by simp) (by simp (disch := omega) only [go_sem, ↓reduceIte, zn1, zn2, zn3, zn4, zn5, zn6, reduceCtorEq, zn7, zi1, zi2, if_pos, if_neg]; rfl) fun B hB => ?_
        (repeat (first | refine DO.nil (by kernel_rfl) ?_ | (with_reducible first | apply oz1 | apply oz2 | apply oz3 | apply oz4 | apply oz5 | apply oz6 | apply oz7 | apply oz8 | apply oz9 | apply ozb | apply ozc | apply oze | apply ozf | apply ozg | apply ozh | apply ozi | apply ozj | apply ozk | refine ozd (by decide) ?_) | ((first | apply SO.call | apply DO.call); (iterate 3 (focus (simp (disch := omega) only [go_sem, ↓reduceIte, zn1, zn2, zn3, zn4, zn5, zn6, reduceCtorEq, zn7, zi1, zi2, if_pos, if_neg, q1, q2, s1, s2, gl, gl2, gt2, Nat.sub_zero, Nat.zero_mul, List.drop_zero] <;> rfl))); (first | apply SCall.ofX | apply DCall.ofX); (focus (first | assumption)); (focus (simp (disch := omega) only [go_sem, ↓reduceIte, zn1, zn2, zn3, zn4, zn5, zn6, reduceCtorEq, zn7, zi1, zi2, if_pos, if_neg, q1, q2, s1, s2, gl, gl2, gt2, Nat.sub_zero, Nat.zero_mul, List.drop_zero] <;> rfl))) | ((with_reducible first | apply SC.condB | apply SC.region | apply SO.run | apply DO.run); (focus (simp (disch := omega) only [go_sem, ↓reduceIte, zn1, zn2, zn3, zn4, zn5, zn6, reduceCtorEq, zn7, zi1, zi2, if_pos, if_neg, q1, q2, s1, s2, gl, gl2, gt2, Nat.sub_zero, Nat.zero_mul, List.drop_zero] <;> rfl)); (first | refine pickT ?_ | refine pickF ?_ | fail_if_success with_reducible refine pickA ?_)) | ((with_reducible refine SC.draw Tab.mixed ?_ ?_); (focus (first | rfl | simp (disch := omega) only [go_sem, ↓reduceIte, zn1, zn2, zn3, zn4, zn5, zn6, reduceCtorEq, zn7, zi1, zi2, if_pos, if_neg, q1, q2, s1, s2, gl, gl2, gt2, Nat.sub_zero, Nat.zero_mul, List.drop_zero]))) | (with_reducible apply SC.ops)))
        (refine DO.callN Tab.go32 (by simp (disch := omega) only [go_sem, ↓reduceIte, zn1, zn2, zn3, zn4, zn5, zn6, reduceCtorEq, zn7, zi1, zi2, if_pos, if_neg]; rfl) (by simp (disch := omega) only [go_sem, ↓reduceIte, zn1, zn2, zn3, zn4, zn5, zn6, reduceCtorEq, zn7, zi1, zi2, if_pos, if_neg] <;> rfl) ?_; refine DNew.of (a1) rfl (by simp (disch := omega) only [go_sem, ↓reduceIte, zn1, zn2, zn3, zn4, zn5, zn6, reduceCtorEq, zn7, zi1, zi2, if_pos, if_neg]; rfl) ?_)
        (repeat (first | refine DO.nil (by kernel_rfl) ?_ | (with_reducible first | apply oz1 | apply oz2 | apply oz3 | apply oz4 | apply oz5 | apply oz6 | apply oz7 | apply oz8 | apply oz9 | apply ozb | apply ozc | apply oze | apply ozf | apply ozg | apply ozh | apply ozi | apply ozj | apply ozk | refine ozd (by decide) ?_) | ((first | apply SO.call | apply DO.call); (iterate 3 (focus (simp (disch := omega) only [go_sem, ↓reduceIte, zn1, zn2, zn3, zn4, zn5, zn6, reduceCtorEq, zn7, zi1, zi2, if_pos, if_neg, q1, q2, s1, s2, gl, gl2, gt2, gP, tP, gT, tT, fT, cT, oT, Nat.sub_zero, Nat.zero_mul, List.drop_zero, List.append_nil, Nat.mul_one, Nat.one_mul] <;> rfl))); (first | apply SCall.ofX | apply DCall.ofX); (focus (first | assumption)); (focus (simp (disch := omega) only [go_sem, ↓reduceIte, zn1, zn2, zn3, zn4, zn5, zn6, reduceCtorEq, zn7, zi1, zi2, if_pos, if_neg, q1, q2, s1, s2, gl, gl2, gt2, gP, tP, gT, tT, fT, cT, oT, Nat.sub_zero, Nat.zero_mul, List.drop_zero, List.append_nil, Nat.mul_one, Nat.one_mul] <;> rfl))) | ((with_reducible first | apply SC.condB | apply SC.region | apply SO.run | apply DO.run); (focus (simp (disch := omega) only [go_sem, ↓reduceIte, zn1, zn2, zn3, zn4, zn5, zn6, reduceCtorEq, zn7, zi1, zi2, if_pos, if_neg, q1, q2, s1, s2, gl, gl2, gt2, gP, tP, gT, tT, fT, cT, oT, Nat.sub_zero, Nat.zero_mul, List.drop_zero, List.append_nil, Nat.mul_one, Nat.one_mul] <;> rfl)); (first | refine pickT ?_ | refine pickF ?_ | fail_if_success with_reducible refine pickA ?_)) | ((with_reducible refine SC.draw Tab.mixed ?_ ?_); (focus (first | rfl | simp (disch := omega) only [go_sem, ↓reduceIte, zn1, zn2, zn3, zn4, zn5, zn6, reduceCtorEq, zn7, zi1, zi2, if_pos, if_neg, q1, q2, s1, s2, gl, gl2, gt2, gP, tP, gT, tT, fT, cT, oT, Nat.sub_zero, Nat.zero_mul, List.drop_zero, List.append_nil, Nat.mul_one, Nat.one_mul]))) | (with_reducible apply SC.ops)))
        refine retIQ_ret (.sl 2 0 (m + 1) 32 none) [(2, ⟨25, P0 ++ bw T, false⟩)] 3 Tryd.results32 (by simp (disch := omega) only [go_sem, ↓reduceIte, zn1, zn2, zn3, zn4, zn5, zn6, reduceCtorEq, zn7, zi1, zi2, if_pos, if_neg]; rfl) ⟨2, by omega, rfl, rfl⟩ ?_
        (refine Le.slots ?_ ?_ ?_ <;> (repeat' (first | (exact fun _ _ h => h) | exact Nat.le_refl _ | exact leSl_nil | refine leSl_cons (by simp (disch := omega) only [go_sem, ↓reduceIte, zn1, zn2, zn3, zn4, zn5, zn6, reduceCtorEq, zn7, zi1, zi2, if_pos, if_neg] <;> rfl) ?_ ?_ | exact VLe.junk _ | exact VLe.refl rfl | exact VLe.nil_sl _ _ _ | exact VLe.int (by first | rfl | omega | (dsimp only; omega)) | exact VLe.bool rfl | exact VLe.sl rfl (by first | rfl | omega) | exact VLe.cap rfl (by first | rfl | omega) | exact VLe.im rfl rfl | omega | (refine fun id k h => ?_; simp only [hget] at h ⊢; (repeat' (split at h)) <;> first | (cases h; done) | (simp (disch := omega) only [if_pos, if_neg]; exact h)))))
      · have q2 : decide ((i : Int) < ((halfN n : Nat) : Int)) = false := decide_eq_false (by omega)
        have x2 : (i : Int) - ((halfN n : Nat) : Int) = ((i - halfN n : Nat) : Int) := by omega
        have x3 : IntKind.i64.wrap ((i - halfN n : Nat) : Int) = ((i - halfN n : Nat) : Int) := by rw [IntKind.wrap_i64]; omega
        have a1 := ih (n - halfN n) (i - halfN n) (f + halfN n) (by omega) (by omega) (by omega)
        have c1 := rtree_s 100 (seg_dg hd f (halfN n)) (by rw [seg_len (by omega)]; omega) (by rw [seg_len (by omega)]; omega)
        rw [seg_len (by omega)] at c1
        rw [visN_r h1 hih, List.map_append, dgC_app, List.length_append, List.length_singleton]
        have e1 : dgC ([(f, f + halfN n, true)].map (pvF l)) = bw (treeF 101 (seg l f (halfN n))) := by
          show bw (treeF 101 (seg l f (f + halfN n - f))) ++ [] = _
          rw [List.append_nil, show f + halfN n - f = halfN n by omega]
        rw [e1]
        have hT := treeF_dg 101 (seg_dg hd f (halfN n))
        generalize treeF 101 (seg l f (halfN n)) = T at *
        have gP := dgC_len (pvs_dg hd (visN (n - halfN n) (i - halfN n) (f + halfN n)))
        rw [List.length_map] at gP
        have gcl : (dgC ((visN (n - halfN n) (i - halfN n) (f + halfN n)).map (pvF l)) ++ bw T).all clo = true := by rw [List.all_append, dgC_clo, bw_clo]; rfl
        generalize dgC ((visN (n - halfN n) (i - halfN n) (f + halfN n)).map (pvF l)) = P0 at *
        have hmb := visN_le _ (n - halfN n) (i - halfN n) (f + halfN n) (Nat.le_refl _)
        generalize (visN (n - halfN n) (i - halfN n) (f + halfN n)).length = m at *
        have tP : P0.take (m * 32) = P0 := List.take_of_length_le (by omega)
        have gT : (bw T).length = 32 := by rw [bw_len, hT.1]
        have tT : (bw T).take 32 = bw T := List.take_of_length_le (by omega)
        have fT := bw_fl1 T
        have cT := bw_clo T
        have oT := bw_one T
        generalize dgC (seg l (f + halfN n) (n - halfN n)) = D2 at *
        generalize dgC (seg l f (halfN n)) = D1 at *
        generalize dgC (seg l f n) = D0 at *
        generalize halfN n = k at *
        refine InlQ.run Tryd.func32 rfl Tryd.ntmps32 (by simp) (by simp (disch := omega) only [go_sem, ↓reduceIte, zn1, zn2, zn3, zn4, zn5, zn6, reduceCtorEq, zn7, zi1, zi2, if_pos, if_neg]; rfl) fun B hB => ?_
        (repeat (first | refine DO.nil (by kernel_rfl) ?_ | (with_reducible first | apply oz1 | apply oz2 | apply oz3 | apply oz4 | apply oz5 | apply oz6 | apply oz7 | apply oz8 | apply oz9 | apply ozb | apply ozc | apply oze | apply ozf | apply ozg | apply ozh | apply ozi | apply ozj | apply ozk | refine ozd (by decide) ?_) | ((first | apply SO.call | apply DO.call); (iterate 3 (focus (simp (disch := omega) only [go_sem, ↓reduceIte, zn1, zn2, zn3, zn4, zn5, zn6, reduceCtorEq, zn7, zi1, zi2, if_pos, if_neg, q1, q2, x2, x3, s1, s2, gl, gl2, gt2, Nat.sub_zero, Nat.zero_mul, List.drop_zero] <;> rfl))); (first | apply SCall.ofX | apply DCall.ofX); (focus (first | assumption)); (focus (simp (disch := omega) only [go_sem, ↓reduceIte, zn1, zn2, zn3, zn4, zn5, zn6, reduceCtorEq, zn7, zi1, zi2, if_pos, if_neg, q1, q2, x2, x3, s1, s2, gl, gl2, gt2, Nat.sub_zero, Nat.zero_mul, List.drop_zero] <;> rfl))) | ((with_reducible first | apply SC.condB | apply SC.region | apply SO.run | apply DO.run); (focus (simp (disch := omega) only [go_sem, ↓reduceIte, zn1, zn2, zn3, zn4, zn5, zn6, reduceCtorEq, zn7, zi1, zi2, if_pos, if_neg, q1, q2, x2, x3, s1, s2, gl, gl2, gt2, Nat.sub_zero, Nat.zero_mul, List.drop_zero] <;> rfl)); (first | refine pickT ?_ | refine pickF ?_ | fail_if_success with_reducible refine pickA ?_)) | ((with_reducible refine SC.draw Tab.mixed ?_ ?_); (focus (first | rfl | simp (disch := omega) only [go_sem, ↓reduceIte, zn1, zn2, zn3, zn4, zn5, zn6, reduceCtorEq, zn7, zi1, zi2, if_pos, if_neg, q1, q2, x2, x3, s1, s2, gl, gl2, gt2, Nat.sub_zero, Nat.zero_mul, List.drop_zero]))) | (with_reducible apply SC.ops)))
        (refine DO.callN Tab.go32 (by simp (disch := omega) only [go_sem, ↓reduceIte, zn1, zn2, zn3, zn4, zn5, zn6, reduceCtorEq, zn7, zi1, zi2, if_pos, if_neg]; rfl) (by simp (disch := omega) only [go_sem, ↓reduceIte, zn1, zn2, zn3, zn4, zn5, zn6, reduceCtorEq, zn7, zi1, zi2, if_pos, if_neg] <;> rfl) ?_; refine DNew.of (a1) rfl (by simp (disch := omega) only [go_sem, ↓reduceIte, zn1, zn2, zn3, zn4, zn5, zn6, reduceCtorEq, zn7, zi1, zi2, if_pos, if_neg]; rfl) ?_)
        (repeat (first | refine DO.nil (by kernel_rfl) ?_ | (with_reducible first | apply oz1 | apply oz2 | apply oz3 | apply oz4 | apply oz5 | apply oz6 | apply oz7 | apply oz8 | apply oz9 | apply ozb | apply ozc | apply oze | apply ozf | apply ozg | apply ozh | apply ozi | apply ozj | apply ozk | refine ozd (by decide) ?_) | ((first | apply SO.call | apply DO.call); (iterate 3 (focus (simp (disch := omega) only [go_sem, ↓reduceIte, zn1, zn2, zn3, zn4, zn5, zn6, reduceCtorEq, zn7, zi1, zi2, if_pos, if_neg, q1, q2, x2, x3, s1, s2, gl, gl2, gt2, gP, tP, gT, tT, fT, cT, oT, Nat.sub_zero, Nat.zero_mul, List.drop_zero, List.append_nil, Nat.mul_one, Nat.one_mul] <;> rfl))); (first | apply SCall.ofX | apply DCall.ofX); (focus (first | assumption)); (focus (simp (disch := omega) only [go_sem, ↓reduceIte, zn1, zn2, zn3, zn4, zn5, zn6, reduceCtorEq, zn7, zi1, zi2, if_pos, if_neg, q1, q2, x2, x3, s1, s2, gl, gl2, gt2, gP, tP, gT, tT, fT, cT, oT, Nat.sub_zero, Nat.zero_mul, List.drop_zero, List.append_nil, Nat.mul_one, Nat.one_mul] <;> rfl))) | ((with_reducible first | apply SC.condB | apply SC.region | apply SO.run | apply DO.run); (focus (simp (disch := omega) only [go_sem, ↓reduceIte, zn1, zn2, zn3, zn4, zn5, zn6, reduceCtorEq, zn7, zi1, zi2, if_pos, if_neg, q1, q2, x2, x3, s1, s2, gl, gl2, gt2, gP, tP, gT, tT, fT, cT, oT, Nat.sub_zero, Nat.zero_mul, List.drop_zero, List.append_nil, Nat.mul_one, Nat.one_mul] <;> rfl)); (first | refine pickT ?_ | refine pickF ?_ | fail_if_success with_reducible refine pickA ?_)) | ((with_reducible refine SC.draw Tab.mixed ?_ ?_); (focus (first | rfl | simp (disch := omega) only [go_sem, ↓reduceIte, zn1, zn2, zn3, zn4, zn5, zn6, reduceCtorEq, zn7, zi1, zi2, if_pos, if_neg, q1, q2, x2, x3, s1, s2, gl, gl2, gt2, gP, tP, gT, tT, fT, cT, oT, Nat.sub_zero, Nat.zero_mul, List.drop_zero, List.append_nil, Nat.mul_one, Nat.one_mul]))) | (with_reducible apply SC.ops)))
        refine retIQ_ret (.sl 2 0 (m + 1) 32 none) [(2, ⟨25, P0 ++ bw T, false⟩)] 3 Tryd.results32 (by simp (disch := omega) only [go_sem, ↓reduceIte, zn1, zn2, zn3, zn4, zn5, zn6, reduceCtorEq, zn7, zi1, zi2, if_pos, if_neg]; rfl) ⟨2, by omega, rfl, rfl⟩ ?_
        (refine Le.slots ?_ ?_ ?_ <;> (repeat' (first | (exact fun _ _ h => h) | exact Nat.le_refl _ | exact leSl_nil | refine leSl_cons (by simp (disch := omega) only [go_sem, ↓reduceIte, zn1, zn2, zn3, zn4, zn5, zn6, reduceCtorEq, zn7, zi1, zi2, if_pos, if_neg] <;> rfl) ?_ ?_ | exact VLe.junk _ | exact VLe.refl rfl | exact VLe.nil_sl _ _ _ | exact VLe.int (by first | rfl | omega | (dsimp only; omega)) | exact VLe.bool rfl | exact VLe.sl rfl (by first | rfl | omega) | exact VLe.cap rfl (by first | rfl | omega) | exact VLe.im rfl rfl | omega | (refine fun id k h => ?_; simp only [hget] at h ⊢; (repeat' (split at h)) <;> first | (cases h; done) | (simp (disch := omega) only [if_pos, if_neg]; exact h)))))
    · have q1 : decide ((n : Int) < 2) = true := decide_eq_true (by omega)
      rw [visN_one h1]
      refine InlQ.run Tryd.func32 rfl Tryd.ntmps32 (by simp) (by simp (disch := omega) only [go_sem, ↓reduceIte, zn1, zn2, zn3, zn4, zn5, zn6, reduceCtorEq, zn7, zi1, zi2, if_pos, if_neg]; rfl) fun B hB => ?_
      (repeat (first | refine DO.nil (by kernel_rfl) ?_ | (with_reducible first | apply oz1 | apply oz2 | apply oz3 | apply oz4 | apply oz5 | apply oz6 | apply oz7 | apply oz8 | apply oz9 | apply ozb | apply ozc | apply oze | apply ozf | apply ozg | apply ozh | apply ozi | apply ozj | apply ozk | refine ozd (by decide) ?_) | ((first | apply SO.call | apply DO.call); (iterate 3 (focus (simp (disch := omega) only [go_sem, ↓reduceIte, zn1, zn2, zn3, zn4, zn5, zn6, reduceCtorEq, zn7, zi1, zi2, if_pos, if_neg, q1] <;> rfl))); (first | apply SCall.ofX | apply DCall.ofX); (focus (first | assumption)); (focus (simp (disch := omega) only [go_sem, ↓reduceIte, zn1, zn2, zn3, zn4, zn5, zn6, reduceCtorEq, zn7, zi1, zi2, if_pos, if_neg, q1] <;> rfl))) | ((with_reducible first | apply SC.condB | apply SC.region | apply SO.run | apply DO.run); (focus (simp (disch := omega) only [go_sem, ↓reduceIte, zn1, zn2, zn3, zn4, zn5, zn6, reduceCtorEq, zn7, zi1, zi2, if_pos, if_neg, q1] <;> rfl)); (first | refine pickT ?_ | refine pickF ?_ | fail_if_success with_reducible refine pickA ?_)) | ((with_reducible refine SC.draw Tab.mixed ?_ ?_); (focus (first | rfl | simp (disch := omega) only [go_sem, ↓reduceIte, zn1, zn2, zn3, zn4, zn5, zn6, reduceCtorEq, zn7, zi1, zi2, if_pos, if_neg, q1]))) | (with_reducible apply SC.ops)))
      refine retIQ_ret (.sl 0 0 0 32 none) [(0, ⟨25, [], false⟩)] 1 Tryd.results32 (by simp (disch := omega) only [go_sem, ↓reduceIte, zn1, zn2, zn3, zn4, zn5, zn6, reduceCtorEq, zn7, zi1, zi2, if_pos, if_neg]; rfl) ⟨0, by omega, rfl, rfl⟩ ?_
      (refine Le.slots ?_ ?_ ?_ <;> (repeat' (first | (exact fun _ _ h => h) | exact Nat.le_refl _ | exact leSl_nil | refine leSl_cons (by simp (disch := omega) only [go_sem, ↓reduceIte, zn1, zn2, zn3, zn4, zn5, zn6, reduceCtorEq, zn7, zi1, zi2, if_pos, if_neg] <;> rfl) ?_ ?_ | exact VLe.junk _ | exact VLe.refl rfl | exact VLe.nil_sl _ _ _ | exact VLe.int (by first | rfl | omega | (dsimp only; omega)) | exact VLe.bool rfl | exact VLe.sl rfl (by first | rfl | omega) | exact VLe.cap rfl (by first | rfl | omega) | exact VLe.im rfl rfl | omega | (refine fun id k h => ?_; simp only [hget] at h ⊢; (repeat' (split at h)) <;> first | (cases h; done) | (simp (disch := omega) only [if_pos, if_neg]; exact h)))))
end Go.Proofs.YtpbnhioelmgaiaaDoor
namespace Go.Proofs.YtpbnhioelmgaiaaDoor
open Go.RowKit
set_option maxHeartbeats 8000000 in
set_option maxRecDepth 8000 in
theorem vis0_q {l : List (List Int)} {q ko kl nx f t m : Nat} {H : List (Nat × Blk)} {P0 : List V} (b : Bool) (i rows cols row : V) (hd : Dgs l) (hl : l.length ≤ 100) (hft : f ≤ t) (ht : t ≤ l.length) (hm : m ≤ 1000) (hP : P0.length = m * 32) (hPo : P0.all V.one = true) (hPc : P0.all clo = true)
    (hq : q < nx) (ho : ko < nx) (hk : kl < nx) (n1 : q ≠ ko) (n2 : q ≠ kl) (n3 : ko ≠ kl) (hH : klB H nx = true) (hHq : hdel H q = H)
    (hi : clo i = true) (hr : clo rows = true) (hc : clo cols = true) (hw : clo row = true) (ori : V.one i = true) (orr : V.one rows = true) (orc : V.one cols = true) (orw : V.one row = true) :
    InlQ Tryd.prog 30 [.sc (.int .i64 f), .sc (.int .i64 t), .sc (.bool b), .pt ko 0, .pt kl 0] ((q, ⟨25, P0, false⟩) :: (ko, ⟨41, [i, rows, cols, row, .sl q 0 m 32 none], false⟩) :: (kl, ⟨39, [.im (dgC l) l.length], false⟩) :: H) nx
      (fun _ hp' nx' => ∃ q', nx ≤ q' ∧ q' < nx' ∧ hp' = (q', ⟨25, P0 ++ bw (pvF l (f, t, b)), false⟩) :: (ko, ⟨41, [i, rows, cols, row, .sl q' 0 (m + 1) 32 none], false⟩) :: (kl, ⟨39, [.im (dgC l) l.length], false⟩) :: H) := by
  have c1 := tree_s 100 (seg_dg hd f (t - f)) (by rw [seg_len (by omega)]; omega) (by rw [seg_len (by omega)]; omega)
  rw [seg_len (by omega)] at c1
  have e1 : pvF l (f, t, b) = treeF 101 (seg l f (t - f)) := rfl
  have hT := treeF_dg 101 (seg_dg hd f (t - f))
  rw [e1]
  generalize treeF 101 (seg l f (t - f)) = T at *
  have gl : (dgC l).length = l.length * 32 := dgC_len hd
  obtain ⟨_, s2⟩ := dgC_split hd f
  obtain ⟨s3, _⟩ := dgC_split (hd.drop f) (t - f)
  have s4 : ((dgC l).drop (f * 32)).take ((t - f) * 32) = dgC (seg l f (t - f)) := by rw [s2, s3]; rfl
  have gT : (bw T).length = 32 := by rw [bw_len, hT.1]
  have tT : (bw T).take 32 = bw T := List.take_of_length_le (by omega)
  have fT := bw_fl1 T
  have cT := bw_clo T
  have oT := bw_one T
  have tP : P0.take (m * 32) = P0 := List.take_of_length_le (by omega)
  have n1' : (ko = q) = False := eq_false (Ne.symm n1)
  have n2' : (kl = q) = False := eq_false (Ne.symm n2)
  have n3' : (kl = ko) = False := eq_false (Ne.symm n3)
  have n4 : (q = ko) = False := eq_false n1
  have n5 : (q = kl) = False := eq_false n2
  have n6 : (ko = kl) = False := eq_false n3
  generalize dgC l = DL at *
  generalize l.length = n at *
  generalize dgC (seg l f (t - f)) = DS at *
  refine InlQ.run Tryd.func30 rfl Tryd.ntmps30 (by simp) (by simp (disch := omega) only [go_sem, ↓reduceIte, zn1, zn2, zn3, zn4, zn5, zn6, reduceCtorEq, zn7, zi1, zi2, if_pos, if_neg]; rfl) fun B hB => ?_
  (repeat (first | refine DO.nilF (fun i => i + 1 - nx) (by simp (disch := omega) only [go_sem, ↓reduceIte, zn1, zn2, zn3, zn4, zn5, zn6, reduceCtorEq, zn7, zi1, zi2, if_pos, if_neg, List.map_cons, List.map_nil, Option.map_some, Option.map_none, Nat.add_sub_cancel_left, Nat.sub_eq_zero_of_le, Nat.add_assoc, zn4] <;> rfl) (by kernel_rfl) ?_ | (with_reducible first | apply oz1 | apply oz2 | apply oz3 | apply oz4 | apply oz5 | apply oz6 | apply oz7 | apply oz8 | apply oz9 | apply ozb | apply ozc | apply oze | apply ozf | apply ozg | apply ozh | apply ozi | apply ozj | apply ozk | refine ozd (by decide) ?_) | ((first | apply SO.call | apply DO.call); (iterate 3 (focus (simp (disch := omega) only [go_sem, ↓reduceIte, zn1, zn2, zn3, zn4, zn5, zn6, reduceCtorEq, zn7, zi1, zi2, if_pos, if_neg, klB_cons, hH, hHq, hq, ho, hk, and_self, n1', n2', n3', n4, n5, n6, gl, s4, gT, tT, fT, cT, oT, tP, hP, List.drop_zero, Nat.mul_one, Nat.one_mul, List.append_nil] <;> rfl))); (first | apply SCall.ofX | apply DCall.ofX); (focus (first | assumption)); (focus (simp (disch := omega) only [go_sem, ↓reduceIte, zn1, zn2, zn3, zn4, zn5, zn6, reduceCtorEq, zn7, zi1, zi2, if_pos, if_neg, klB_cons, hH, hHq, hq, ho, hk, and_self, n1', n2', n3', n4, n5, n6, gl, s4, gT, tT, fT, cT, oT, tP, hP, List.drop_zero, Nat.mul_one, Nat.one_mul, List.append_nil] <;> rfl))) | ((with_reducible first | apply SC.condB | apply SC.region | apply SO.run | apply DO.run); (focus (simp (disch := omega) only [go_sem, ↓reduceIte, zn1, zn2, zn3, zn4, zn5, zn6, reduceCtorEq, zn7, zi1, zi2, if_pos, if_neg, klB_cons, hH, hHq, hq, ho, hk, and_self, n1', n2', n3', n4, n5, n6, gl, s4, gT, tT, fT, cT, oT, tP, hP, List.drop_zero, Nat.mul_one, Nat.one_mul, List.append_nil] <;> rfl)); (first | refine pickT ?_ | refine pickF ?_ | fail_if_success with_reducible refine pickA ?_)) | ((with_reducible refine SC.draw Tab.mixed ?_ ?_); (focus (first | rfl | simp (disch := omega) only [go_sem, ↓reduceIte, zn1, zn2, zn3, zn4, zn5, zn6, reduceCtorEq, zn7, zi1, zi2, if_pos, if_neg, klB_cons, hH, hHq, hq, ho, hk, and_self, n1', n2', n3', n4, n5, n6, gl, s4, gT, tT, fT, cT, oT, tP, hP, List.drop_zero, Nat.mul_one, Nat.one_mul, List.append_nil]))) | (with_reducible apply SC.ops)))
  have hHn : ∀ j k, hget H j = some k → j < nx := klB_sound (s := ⟨[], H, nx, 0⟩) hH
  refine retIQ_normal _ ((nx + 1, ⟨25, P0 ++ bw T, false⟩) :: (ko, ⟨41, [i, rows, cols, row, .sl (nx + 1) 0 (m + 1) 32 none], false⟩) :: (kl, ⟨39, [.im DL n], false⟩) :: H) (nx + 2) Tryd.results30 rfl ⟨nx + 1, by omega, by omega, rfl⟩ (Le.less (fun j k h => ?_) (Nat.le_refl _))
  simp only [hget] at h ⊢
  split at h
  · rename_i e; rw [if_pos e]; exact h
  · rename_i e1
    rw [if_neg e1]
    split at h
    · rename_i e; rw [if_neg (by omega), if_pos e]; exact h
    · rename_i e2
      split at h
      · rename_i e; rw [if_neg (by omega), if_neg e2, if_pos e]; exact h
      · rename_i e3
        have := hHn j k h
        rw [if_neg (by omega), if_neg e2, if_neg e3]; exact h
end Go.Proofs.YtpbnhioelmgaiaaDoor
namespace Go.Proofs.YtpbnhioelmgaiaaDoor
open Go.RowKit
theorem Le.emp {B : Base} {sl : List (Nat × V)} {hp : List (Nat × Blk)} {nx nt c : Nat} {ad : Addr} (t : Nat) (h : get sl t = .sc (.slice (some ad) 0 c)) (hc : c ≤ maxLen) : Le B ⟨sl, hp, nx, nt⟩ ⟨(t, .im [] 0) :: sl, hp, nx, nt⟩ := by
  intro S rho A a w hr
  refine ⟨S, rho, A, ⟨fun t' => ?_, hr.mem, hr.alt, hr.nt, hr.defs⟩⟩
  simp only [get]
  by_cases e : t' = t
  · subst e
    rw [if_pos rfl]
    have := hr.slots t'
    simp only at this
    rw [h] at this
    generalize a.eval (.tmp t') = u at *
    cases this
    exact .im0 (Nat.zero_le _) hc (fun h => by cases h)
  · rw [if_neg e]; exact hr.slots t'
theorem tmsC_one (l : List Tm) : (tmsC l).all V.one = true := by
  rw [List.all_eq_true]
  intro x hx
  obtain ⟨t, _, hx⟩ := List.mem_flatMap.1 hx
  simp only [tmC, List.mem_cons, List.not_mem_nil, or_false] at hx
  rcases hx with rfl | rfl | rfl <;> rfl
theorem clone_s {r : List Tm} (hn : r.length ≤ 1000000) : Spec Tryd.prog 28 [.im (tmsC r) r.length] (.im (tmsC r) r.length) := by
  by_cases h : r.length = 0
  · have h0 : r = [] := List.eq_nil_of_length_eq_zero h
    subst h0
    refine Spec.split0 ?_ fun a c hc => ?_
    · refine Spec.run Tryd.func28 rfl Tryd.ntmps28 (by simp) (by simp (disch := omega) only [go_sem, ↓reduceIte, zn1, zn2, zn3, zn4, zn5, zn6, reduceCtorEq, zn7, zi1, zi2, if_pos, if_neg]; rfl) fun B hB => ?_
      (repeat (first | refine DO.nil (by kernel_rfl) ?_ | (with_reducible first | apply oz1 | apply oz2 | apply oz3 | apply oz4 | apply oz5 | apply oz6 | apply oz7 | apply oz8 | apply oz9 | apply ozb | apply ozc | apply oze | apply ozf | apply ozg | apply ozh | apply ozi | apply ozj | apply ozk | refine ozd (by decide) ?_) | ((first | apply SO.call | apply DO.call); (iterate 3 (focus (simp (disch := omega) only [go_sem, ↓reduceIte, zn1, zn2, zn3, zn4, zn5, zn6, reduceCtorEq, zn7, zi1, zi2, if_pos, if_neg] <;> rfl))); (first | apply SCall.ofX | apply DCall.ofX); (focus (first | assumption)); (focus (simp (disch := omega) only [go_sem, ↓reduceIte, zn1, zn2, zn3, zn4, zn5, zn6, reduceCtorEq, zn7, zi1, zi2, if_pos, if_neg] <;> rfl))) | ((with_reducible first | apply SC.condB | apply SC.region | apply SO.run | apply DO.run); (focus (simp (disch := omega) only [go_sem, ↓reduceIte, zn1, zn2, zn3, zn4, zn5, zn6, reduceCtorEq, zn7, zi1, zi2, if_pos, if_neg] <;> rfl)); (first | refine pickT ?_ | refine pickF ?_ | fail_if_success with_reducible refine pickA ?_)) | ((with_reducible refine SC.draw Tab.mixed ?_ ?_); (focus (first | rfl | simp (disch := omega) only [go_sem, ↓reduceIte, zn1, zn2, zn3, zn4, zn5, zn6, reduceCtorEq, zn7, zi1, zi2, if_pos, if_neg]))) | (with_reducible apply SC.ops)))
      exact retQ_ret Tryd.results28 (by simp (disch := omega) only [go_sem, ↓reduceIte, zn1, zn2, zn3, zn4, zn5, zn6, reduceCtorEq, zn7, zi1, zi2, if_pos, if_neg] <;> rfl) (by simp (disch := omega) only [go_sem, ↓reduceIte, zn1, zn2, zn3, zn4, zn5, zn6, reduceCtorEq, zn7, zi1, zi2, if_pos, if_neg] <;> rfl) rfl
    · refine Spec.run Tryd.func28 rfl Tryd.ntmps28 (by simp) (by simp (disch := omega) only [go_sem, ↓reduceIte, zn1, zn2, zn3, zn4, zn5, zn6, reduceCtorEq, zn7, zi1, zi2, if_pos, if_neg]; rfl) fun B hB => ?_
      (repeat (first | refine DO.nil (by kernel_rfl) ?_ | (with_reducible first | apply oz1 | apply oz2 | apply oz3 | apply oz4 | apply oz5 | apply oz6 | apply oz7 | apply oz8 | apply oz9 | apply ozb | apply ozc | apply oze | apply ozf | apply ozg | apply ozh | apply ozi | apply ozj | apply ozk | refine ozd (by decide) ?_) | ((first | apply SO.call | apply DO.call); (iterate 3 (focus (simp (disch := omega) only [go_sem, ↓reduceIte, zn1, zn2, zn3, zn4, zn5, zn6, reduceCtorEq, zn7, zi1, zi2, if_pos, if_neg] <;> rfl))); (first | apply SCall.ofX | apply DCall.ofX); (focus (first | assumption)); (focus (simp (disch := omega) only [go_sem, ↓reduceIte, zn1, zn2, zn3, zn4, zn5, zn6, reduceCtorEq, zn7, zi1, zi2, if_pos, if_neg] <;> rfl))) | ((with_reducible first | apply SC.condB | apply SC.region | apply SO.run | apply DO.run); (focus (simp (disch := omega) only [go_sem, ↓reduceIte, zn1, zn2, zn3, zn4, zn5, zn6, reduceCtorEq, zn7, zi1, zi2, if_pos, if_neg] <;> rfl)); (first | refine pickT ?_ | refine pickF ?_ | fail_if_success with_reducible refine pickA ?_)) | ((with_reducible refine SC.draw Tab.mixed ?_ ?_); (focus (first | rfl | simp (disch := omega) only [go_sem, ↓reduceIte, zn1, zn2, zn3, zn4, zn5, zn6, reduceCtorEq, zn7, zi1, zi2, if_pos, if_neg]))) | (with_reducible apply SC.ops)))
      refine SO.weak (Le.emp 6 (by simp (disch := omega) only [go_sem, ↓reduceIte, zn1, zn2, zn3, zn4, zn5, zn6, reduceCtorEq, zn7, zi1, zi2, if_pos, if_neg] <;> rfl) hc) ?_
      (repeat (first | refine DO.nil (by kernel_rfl) ?_ | (with_reducible first | apply oz1 | apply oz2 | apply oz3 | apply oz4 | apply oz5 | apply oz6 | apply oz7 | apply oz8 | apply oz9 | apply ozb | apply ozc | apply oze | apply ozf | apply ozg | apply ozh | apply ozi | apply ozj | apply ozk | refine ozd (by decide) ?_) | ((first | apply SO.call | apply DO.call); (iterate 3 (focus (simp (disch := omega) only [go_sem, ↓reduceIte, zn1, zn2, zn3, zn4, zn5, zn6, reduceCtorEq, zn7, zi1, zi2, if_pos, if_neg] <;> rfl))); (first | apply SCall.ofX | apply DCall.ofX); (focus (first | assumption)); (focus (simp (disch := omega) only [go_sem, ↓reduceIte, zn1, zn2, zn3, zn4, zn5, zn6, reduceCtorEq, zn7, zi1, zi2, if_pos, if_neg] <;> rfl))) | ((with_reducible first | apply SC.condB | apply SC.region | apply SO.run | apply DO.run); (focus (simp (disch := omega) only [go_sem, ↓reduceIte, zn1, zn2, zn3, zn4, zn5, zn6, reduceCtorEq, zn7, zi1, zi2, if_pos, if_neg] <;> rfl)); (first | refine pickT ?_ | refine pickF ?_ | fail_if_success with_reducible refine pickA ?_)) | ((with_reducible refine SC.draw Tab.mixed ?_ ?_); (focus (first | rfl | simp (disch := omega) only [go_sem, ↓reduceIte, zn1, zn2, zn3, zn4, zn5, zn6, reduceCtorEq, zn7, zi1, zi2, if_pos, if_neg]))) | (with_reducible apply SC.ops)))
      exact retQ_ret Tryd.results28 (by simp (disch := omega) only [go_sem, ↓reduceIte, zn1, zn2, zn3, zn4, zn5, zn6, reduceCtorEq, zn7, zi1, zi2, if_pos, if_neg] <;> rfl) (by simp (disch := omega) only [go_sem, ↓reduceIte, zn1, zn2, zn3, zn4, zn5, zn6, reduceCtorEq, zn7, zi1, zi2, if_pos, if_neg] <;> rfl) rfl
  · have gl := tmsC_len r
    have gc := tmsC_clo r
    have go := tmsC_one r
    have gt : (tmsC r).take (r.length * 3) = tmsC r := List.take_of_length_le (by omega)
    refine Spec.run Tryd.func28 rfl Tryd.ntmps28 (by simp) (by simp (disch := omega) only [go_sem, ↓reduceIte, zn1, zn2, zn3, zn4, zn5, zn6, reduceCtorEq, zn7, zi1, zi2, if_pos, if_neg]; rfl) fun B hB => ?_
    (repeat (first | refine DO.nil (by kernel_rfl) ?_ | (with_reducible first | apply oz1 | apply oz2 | apply oz3 | apply oz4 | apply oz5 | apply oz6 | apply oz7 | apply oz8 | apply oz9 | apply ozb | apply ozc | apply oze | apply ozf | apply ozg | apply ozh | apply ozi | apply ozj | apply ozk | refine ozd (by decide) ?_) | ((first | apply SO.call | apply DO.call); (iterate 3 (focus (simp (disch := omega) only [go_sem, ↓reduceIte, zn1, zn2, zn3, zn4, zn5, zn6, reduceCtorEq, zn7, zi1, zi2, if_pos, if_neg, gl, gc, go, gt, List.drop_zero, Nat.mul_one, Nat.zero_add, List.nil_append] <;> rfl))); (first | apply SCall.ofX | apply DCall.ofX); (focus (first | assumption)); (focus (simp (disch := omega) only [go_sem, ↓reduceIte, zn1, zn2, zn3, zn4, zn5, zn6, reduceCtorEq, zn7, zi1, zi2, if_pos, if_neg, gl, gc, go, gt, List.drop_zero, Nat.mul_one, Nat.zero_add, List.nil_append] <;> rfl))) | ((with_reducible first | apply SC.condB | apply SC.region | apply SO.run | apply DO.run); (focus (simp (disch := omega) only [go_sem, ↓reduceIte, zn1, zn2, zn3, zn4, zn5, zn6, reduceCtorEq, zn7, zi1, zi2, if_pos, if_neg, gl, gc, go, gt, List.drop_zero, Nat.mul_one, Nat.zero_add, List.nil_append] <;> rfl)); (first | refine pickT ?_ | refine pickF ?_ | fail_if_success with_reducible refine pickA ?_)) | ((with_reducible refine SC.draw Tab.mixed ?_ ?_); (focus (first | rfl | simp (disch := omega) only [go_sem, ↓reduceIte, zn1, zn2, zn3, zn4, zn5, zn6, reduceCtorEq, zn7, zi1, zi2, if_pos, if_neg, gl, gc, go, gt, List.drop_zero, Nat.mul_one, Nat.zero_add, List.nil_append]))) | (with_reducible apply SC.ops)))
    exact retQ_ret Tryd.results28 (by simp (disch := omega) only [go_sem, ↓reduceIte, zn1, zn2, zn3, zn4, zn5, zn6, reduceCtorEq, zn7, zi1, zi2, if_pos, if_neg, gl, gc, gt, List.drop_zero] <;> rfl) (by simp (disch := omega) only [go_sem, ↓reduceIte, zn1, zn2, zn3, zn4, zn5, zn6, reduceCtorEq, zn7, zi1, zi2, if_pos, if_neg, gl, gc, gt, List.drop_zero] <;> rfl) rfl
theorem nilRowZ {B : Base} {sl sl' : List (Nat × V)} {hp rest : List (Nat × Blk)} {nx nt m z : Nat} {pre : List V} {tM tO : TypeId} (d q0 : Nat) (hB : B.Old m) (hd : hget hp d = some ⟨tM, pre ++ [.sc (.slice none 0 0)], false⟩) (hpre : pre.all clo = true) (hdq : d < q0)
    (hr : restLt hp q0 d q0 [] rest) (hm : m ≤ q0) (hs : mapSl (fun i => i) (fun i => i < q0) sl sl') :
    Le B ⟨sl, hp, nx, nt⟩ ⟨sl', (d, ⟨tM, pre ++ [.sl q0 0 0 z none], false⟩) :: (q0, ⟨tO, [], false⟩) :: rest, q0 + 1, nt⟩ := by
  refine Le.map (fun i => i) (fun i => i < q0) hB (fun i hi => ⟨by omega, rfl⟩) (fun i hi => by omega) (fun i j _ _ e => e) hs fun i b hb hlt => ?_
  simp only [hget] at hb
  split at hb
  · rename_i e
    subst e
    cases hb
    rw [hd]
    exact ⟨_, rfl, rfl, rfl, clo_map hpre (VMap.nil_sl _ _ _)⟩
  · split at hb
    · omega
    · obtain ⟨h1, h2, h3, _, h4, h5⟩ := restLt_get hr i b hb
      rw [h4]
      exact BMap.cloN h5
theorem visN_mem : ∀ (N n i f : Nat), n ≤ N → ∀ v ∈ visN n i f, v.1 ≤ v.2.1 ∧ v.2.1 ≤ f + n
  | 0, n, i, f, h, v, hv => by rw [visN_one (by omega)] at hv; cases hv
  | N + 1, n, i, f, h, v, hv => by
    by_cases h1 : 1 < n
    · have hh := halfN_lt h1
      by_cases hi : i < halfN n
      · rw [visN_l h1 hi] at hv
        rcases List.mem_append.1 hv with hv | hv
        · have := visN_mem N _ _ _ (by omega) v hv
          exact ⟨this.1, by omega⟩
        · rw [List.mem_singleton.1 hv]; exact ⟨by show f + halfN n ≤ f + n; omega, Nat.le_refl _⟩
      · rw [visN_r h1 hi] at hv
        rcases List.mem_append.1 hv with hv | hv
        · have := visN_mem N _ _ _ (by omega) v hv
          exact ⟨this.1, by omega⟩
        · rw [List.mem_singleton.1 hv]; exact ⟨by show f ≤ f + halfN n; omega, by show f + halfN n ≤ f + n; omega⟩
    · rw [visN_one h1] at hv; cases hv
def prV (i h w : Int) (r : List Tm) (p : List (List Int)) : V := .tu [.ag [.sc (.int .i64 i), .sc (.int .i64 h), .sc (.int .i64 w), .im (tmsC r) r.length, .im (dgC p) p.length], .sc (.int .i64 0)]
def noV : V := .tu [.ag [.sc (.int .i64 0), .sc (.int .i64 0), .sc (.int .i64 0), .im [] 0, .im [] 0], .sc (.int .i64 1)]
def pathL (L : List (List Tm)) (i : Nat) : List (List Int) := (visN L.length i 0).map (pvF (dgsL L))
set_option maxHeartbeats 8000000 in
set_option maxRecDepth 8000 in
theorem prove_s {L : List (List Tm)} {h w : Nat} (hL : RowsOk2 L) (hlen : L.length = h) (hh : h ≤ 100) (hw : w ≤ 100) (i : Int) :
    Spec Tryd.prog 10 [spV h w L, .sc (.int .i64 i)] (if 0 ≤ i ∧ i < h then prV i h w (L.getD i.toNat []) (pathL L i.toNat) else noV) := by
  unfold spV
  by_cases h1 : i < 0
  · have q1 : decide (i < 0) = true := decide_eq_true h1
    rw [if_neg (by omega)]
    unfold noV
    refine Spec.run Tryd.func10 rfl Tryd.ntmps10 (by simp) (by simp (disch := omega) only [go_sem, ↓reduceIte, zn1, zn2, zn3, zn4, zn5, zn6, reduceCtorEq, zn7, zi1, zi2, if_pos, if_neg]; rfl) fun B hB => ?_
    (repeat (first | refine DO.nil (by kernel_rfl) ?_ | (with_reducible first | apply oz1 | apply oz2 | apply oz3 | apply oz4 | apply oz5 | apply oz6 | apply oz7 | apply oz8 | apply oz9 | apply ozb | apply ozc | apply oze | apply ozf | apply ozg | apply ozh | apply ozi | apply ozj | apply ozk | refine ozd (by decide) ?_) | ((first | apply SO.call | apply DO.call); (iterate 3 (focus (simp (disch := omega) only [go_sem, ↓reduceIte, zn1, zn2, zn3, zn4, zn5, zn6, reduceCtorEq, zn7, zi1, zi2, if_pos, if_neg, q1] <;> rfl))); (first | apply SCall.ofX | apply DCall.ofX); (focus (first | assumption)); (focus (simp (disch := omega) only [go_sem, ↓reduceIte, zn1, zn2, zn3, zn4, zn5, zn6, reduceCtorEq, zn7, zi1, zi2, if_pos, if_neg, q1] <;> rfl))) | ((with_reducible first | apply SC.condB | apply SC.region | apply SO.run | apply DO.run); (focus (simp (disch := omega) only [go_sem, ↓reduceIte, zn1, zn2, zn3, zn4, zn5, zn6, reduceCtorEq, zn7, zi1, zi2, if_pos, if_neg, q1] <;> rfl)); (first | refine pickT ?_ | refine pickF ?_ | fail_if_success with_reducible refine pickA ?_)) | ((with_reducible refine SC.draw Tab.mixed ?_ ?_); (focus (first | rfl | simp (disch := omega) only [go_sem, ↓reduceIte, zn1, zn2, zn3, zn4, zn5, zn6, reduceCtorEq, zn7, zi1, zi2, if_pos, if_neg, q1]))) | (with_reducible apply SC.ops)))
    exact retQ_ret Tryd.results10 (by simp (disch := omega) only [go_sem, ↓reduceIte, zn1, zn2, zn3, zn4, zn5, zn6, reduceCtorEq, zn7, zi1, zi2, if_pos, if_neg] <;> rfl) (by simp (disch := omega) only [go_sem, ↓reduceIte, zn1, zn2, zn3, zn4, zn5, zn6, reduceCtorEq, zn7, zi1, zi2, if_pos, if_neg] <;> rfl) rfl
  have q1 : decide (i < 0) = false := decide_eq_false h1
  by_cases h2 : i ≥ h
  · have q2 : decide (i ≥ (h : Int)) = true := decide_eq_true h2
    have q2' : decide ((h : Int) ≤ i) = true := decide_eq_true h2
    rw [if_neg (by omega)]
    unfold noV
    refine Spec.run Tryd.func10 rfl Tryd.ntmps10 (by simp) (by simp (disch := omega) only [go_sem, ↓reduceIte, zn1, zn2, zn3, zn4, zn5, zn6, reduceCtorEq, zn7, zi1, zi2, if_pos, if_neg]; rfl) fun B hB => ?_
    (repeat (first | refine DO.nil (by kernel_rfl) ?_ | (with_reducible first | apply oz1 | apply oz2 | apply oz3 | apply oz4 | apply oz5 | apply oz6 | apply oz7 | apply oz8 | apply oz9 | apply ozb | apply ozc | apply oze | apply ozf | apply ozg | apply ozh | apply ozi | apply ozj | apply ozk | refine ozd (by decide) ?_) | ((first | apply SO.call | apply DO.call); (iterate 3 (focus (simp (disch := omega) only [go_sem, ↓reduceIte, zn1, zn2, zn3, zn4, zn5, zn6, reduceCtorEq, zn7, zi1, zi2, if_pos, if_neg, q1, q2, q2'] <;> rfl))); (first | apply SCall.ofX | apply DCall.ofX); (focus (first | assumption)); (focus (simp (disch := omega) only [go_sem, ↓reduceIte, zn1, zn2, zn3, zn4, zn5, zn6, reduceCtorEq, zn7, zi1, zi2, if_pos, if_neg, q1, q2, q2'] <;> rfl))) | ((with_reducible first | apply SC.condB | apply SC.region | apply SO.run | apply DO.run); (focus (simp (disch := omega) only [go_sem, ↓reduceIte, zn1, zn2, zn3, zn4, zn5, zn6, reduceCtorEq, zn7, zi1, zi2, if_pos, if_neg, q1, q2, q2'] <;> rfl)); (first | refine pickT ?_ | refine pickF ?_ | fail_if_success with_reducible refine pickA ?_)) | ((with_reducible refine SC.draw Tab.mixed ?_ ?_); (focus (first | rfl | simp (disch := omega) only [go_sem, ↓reduceIte, zn1, zn2, zn3, zn4, zn5, zn6, reduceCtorEq, zn7, zi1, zi2, if_pos, if_neg, q1, q2, q2']))) | (with_reducible apply SC.ops)))
    exact retQ_ret Tryd.results10 (by simp (disch := omega) only [go_sem, ↓reduceIte, zn1, zn2, zn3, zn4, zn5, zn6, reduceCtorEq, zn7, zi1, zi2, if_pos, if_neg] <;> rfl) (by simp (disch := omega) only [go_sem, ↓reduceIte, zn1, zn2, zn3, zn4, zn5, zn6, reduceCtorEq, zn7, zi1, zi2, if_pos, if_neg] <;> rfl) rfl
  have q2 : decide (i ≥ (h : Int)) = false := decide_eq_false h2
  have q2' : decide ((h : Int) ≤ i) = false := decide_eq_false h2
  rw [if_pos (by omega)]
  obtain ⟨k, rfl⟩ := Int.eq_ofNat_of_zero_le (show 0 ≤ i by omega)
  have hk : k < L.length := by omega
  have c1 := digests_s hL (.sc (.int .i64 h)) (.sc (.int .i64 w)) rfl rfl rfl rfl
  have g1 := rsC_get hk
  have g2 := rsC_len L
  have hr := hL.1 _ (getDm (d := []) hk)
  have c2 := clone_s (r := L.getD k []) (by have := hr.2; omega)
  have gd := dgC_len (dgsL_dg L)
  rw [dgsL_len] at gd
  have gcl := dgC_clo (dgsL L)
  unfold prV
  rw [Int.toNat_natCast]
  subst hlen
  have ct := tmsC_clo (L.getD k [])
  have x0 : ((k : Int)).toNat = k := rfl
  refine Spec.run Tryd.func10 rfl Tryd.ntmps10 (by simp) (by simp (disch := omega) only [go_sem, ↓reduceIte, zn1, zn2, zn3, zn4, zn5, zn6, reduceCtorEq, zn7, zi1, zi2, if_pos, if_neg]; rfl) fun B hB => ?_
  (repeat (first | refine DO.nil (by kernel_rfl) ?_ | (with_reducible first | apply oz1 | apply oz2 | apply oz3 | apply oz4 | apply oz5 | apply oz6 | apply oz7 | apply oz8 | apply oz9 | apply ozb | apply ozc | apply oze | apply ozf | apply ozg | apply ozh | apply ozi | apply ozj | apply ozk | refine ozd (by decide) ?_) | ((first | apply SO.call | apply DO.call); (iterate 3 (focus (simp (disch := omega) only [go_sem, ↓reduceIte, zn1, zn2, zn3, zn4, zn5, zn6, reduceCtorEq, zn7, zi1, zi2, if_pos, if_neg, q1, q2, q2', g1, g2, x0, List.getElem?_drop, Nat.mul_one, bne_self_eq_false] <;> rfl))); (first | apply SCall.ofX | apply DCall.ofX); (focus (first | assumption)); (focus (simp (disch := omega) only [go_sem, ↓reduceIte, zn1, zn2, zn3, zn4, zn5, zn6, reduceCtorEq, zn7, zi1, zi2, if_pos, if_neg, q1, q2, q2', g1, g2, x0, List.getElem?_drop, Nat.mul_one, bne_self_eq_false] <;> rfl))) | ((with_reducible first | apply SC.condB | apply SC.region | apply SO.run | apply DO.run); (focus (simp (disch := omega) only [go_sem, ↓reduceIte, zn1, zn2, zn3, zn4, zn5, zn6, reduceCtorEq, zn7, zi1, zi2, if_pos, if_neg, q1, q2, q2', g1, g2, x0, List.getElem?_drop, Nat.mul_one, bne_self_eq_false] <;> rfl)); (first | refine pickT ?_ | refine pickF ?_ | fail_if_success with_reducible refine pickA ?_)) | ((with_reducible refine SC.draw Tab.mixed ?_ ?_); (focus (first | rfl | simp (disch := omega) only [go_sem, ↓reduceIte, zn1, zn2, zn3, zn4, zn5, zn6, reduceCtorEq, zn7, zi1, zi2, if_pos, if_neg, q1, q2, q2', g1, g2, x0, List.getElem?_drop, Nat.mul_one, bne_self_eq_false]))) | (with_reducible apply SC.ops)))
  have hvl := visN_le _ L.length k 0 (Nat.le_refl _)
  have hgo := dgsL_dg L
  have hgl := dgsL_len L
  refine SO.weak (nilRowZ (z := 32) (tO := 25) (sl' := [(42, .fn (.func 30) [] [.pt 3 0, .pt 2 0]), (41, .sc (.int .i64 k)), (40, .sc (.int .i64 L.length)), (7, .pt 3 0), (4, .pt 1 0)]) (rest := [(2, ⟨39, [.im (dgC (dgsL L)) L.length], false⟩), (1, ⟨41, [.sc (.int .i64 0), .sc (.int .i64 0), .sc (.int .i64 0), .sc (.slice none 0 0), .sc (.slice none 0 0)], false⟩)]) (pre := [.sc (.int .i64 k), .sc (.int .i64 L.length), .sc (.int .i64 w), .im (tmsC (L.getD k [])) (L.getD k []).length]) 3 4 hB (by simp (disch := omega) only [go_sem, ↓reduceIte, zn1, zn2, zn3, zn4, zn5, zn6, reduceCtorEq, zn7, zi1, zi2, if_pos, if_neg] <;> rfl) rfl (by omega) ?_ (by omega) ?_) ?_
  · exact ⟨⟨by omega, by omega, by omega, by simp, by simp (disch := omega) only [go_sem, ↓reduceIte, zn1, zn2, zn3, zn4, zn5, zn6, reduceCtorEq, zn7, zi1, zi2, if_pos, if_neg] <;> rfl, rfl⟩, ⟨by omega, by omega, by omega, by simp, by simp (disch := omega) only [go_sem, ↓reduceIte, zn1, zn2, zn3, zn4, zn5, zn6, reduceCtorEq, zn7, zi1, zi2, if_pos, if_neg] <;> rfl, rfl⟩, trivial⟩
  · (repeat' (first | exact trivial | refine mapSl_cons (by simp (disch := omega) only [go_sem, ↓reduceIte, zn1, zn2, zn3, zn4, zn5, zn6, reduceCtorEq, zn7, zi1, zi2, if_pos, if_neg] <;> rfl) ?_ ?_ | exact VMap.junk _ | exact VMap.sc _ | exact VMap.clo rfl | exact VMap.sl rfl (by omega) | exact VMap.cap rfl (by omega) | exact VMap.pt rfl (by omega) | exact VMap.nil_sl _ _ _ | exact VMap.int (by first | rfl | omega | (dsimp only; omega))))
    refine VMap.fn rfl rfl (fun i x y hx hy => by simp at hx) (fun i x y hx hy => ?_)
    match i, hx, hy with
    | 0, hx, hy => cases hx; cases hy; exact VMap.pt rfl (by omega)
    | 1, hx, hy => cases hx; cases hy; exact VMap.pt rfl (by omega)
    | i + 2, hx, _ => simp at hx
  simp only [List.cons_append, List.nil_append, zn4]
  refine SO.weak (Le.less (hp' := (4, ⟨25, [], false⟩) :: (3, ⟨41, [.sc (.int .i64 k), .sc (.int .i64 L.length), .sc (.int .i64 w), .im (tmsC (L.getD k [])) (L.getD k []).length, .sl 4 0 0 32 none], false⟩) :: (2, ⟨39, [.im (dgC (dgsL L)) L.length], false⟩) :: [(1, ⟨41, [.sc (.int .i64 0), .sc (.int .i64 0), .sc (.int .i64 0), .sc (.slice none 0 0), .sc (.slice none 0 0)], false⟩)]) (by (refine fun id k h => ?_; simp only [hget] at h ⊢; (repeat' (split at h)) <;> first | (cases h; done) | (simp (disch := omega) only [if_pos, if_neg]; exact h))) (Nat.le_refl _)) ?_
  have hw1 := walk_q (g := 30) (cap := [.pt 3 0, .pt 2 0]) Tab.go30 (visN L.length k 0) (fun done hp nx => ∃ q, 4 ≤ q ∧ q < nx ∧ hp = (q, ⟨25, dgC (done.map (pvF (dgsL L))), false⟩) :: (3, ⟨41, [.sc (.int .i64 k), .sc (.int .i64 L.length), .sc (.int .i64 w), .im (tmsC (L.getD k [])) (L.getD k []).length, .sl q 0 done.length 32 none], false⟩) :: (2, ⟨39, [.im (dgC (dgsL L)) L.length], false⟩) :: [(1, ⟨41, [.sc (.int .i64 0), .sc (.int .i64 0), .sc (.int .i64 0), .sc (.slice none 0 0), .sc (.slice none 0 0)], false⟩)])
    (fun done f t b tl hp nx ht h => by
      obtain ⟨q, hq1, hq2, rfl⟩ := h
      have hmem := visN_mem _ L.length k 0 (Nat.le_refl _) (f, t, b) (by rw [← ht]; simp)
      have hm1 : f ≤ t := hmem.1
      have hm2 : t ≤ 0 + L.length := hmem.2
      have hdl : done.length ≤ L.length := by
        have h1 := congrArg List.length ht
        rw [List.length_append] at h1
        omega
      have hPl := dgC_len (pvs_dg hgo done)
      rw [List.length_map] at hPl
      have hv := vis0_q (l := dgsL L) (q := q) (ko := 3) (kl := 2) (nx := nx) (f := f) (t := t) (m := done.length) (H := [(1, ⟨41, [.sc (.int .i64 0), .sc (.int .i64 0), .sc (.int .i64 0), .sc (.slice none 0 0), .sc (.slice none 0 0)], false⟩)]) (P0 := dgC (done.map (pvF (dgsL L)))) b (.sc (.int .i64 k)) (.sc (.int .i64 L.length)) (.sc (.int .i64 w)) (.im (tmsC (L.getD k [])) (L.getD k []).length) hgo (by rw [hgl]; exact hh) hm1 (by rw [hgl]; omega) (by omega) hPl (dgC_one _) (dgC_clo _) hq2 (by omega) (by omega) (by omega) (by omega) (by decide) (by rw [klB_cons, if_pos (by omega)]; rfl) (by simp [hdel]; omega) rfl rfl rfl rfl rfl rfl rfl rfl
      rw [hgl] at hv
      refine InlQ.mono hv fun y hp' nx' h => ?_
      obtain ⟨q', h1, h2, rfl⟩ := h
      refine ⟨q', by omega, h2, ?_⟩
      have e9 : dgC ((done ++ [(f, t, b)]).map (pvF (dgsL L))) = dgC (done.map (pvF (dgsL L))) ++ bw (pvF (dgsL L) (f, t, b)) := by
        rw [List.map_append, dgC_app]; congr 1; exact List.append_nil _
      rw [e9, List.length_append, List.length_singleton])
    L.length L.length k 0 [] [] _ 5 (Nat.le_refl _) hk (by omega) (by simp) ⟨4, by omega, by omega, rfl⟩
  rw [List.nil_append, Nat.zero_add, Nat.zero_add] at hw1
  refine SO.inlQ (by simp (disch := omega) only [go_sem, ↓reduceIte, zn1, zn2, zn3, zn4, zn5, zn6, reduceCtorEq, zn7, zi1, zi2, if_pos, if_neg] <;> rfl) Tab.go29 (by simp (disch := omega) only [go_sem, ↓reduceIte, zn1, zn2, zn3, zn4, zn5, zn6, reduceCtorEq, zn7, zi1, zi2, if_pos, if_neg] <;> rfl) (by simp (disch := omega) only [go_sem, ↓reduceIte, zn1, zn2, zn3, zn4, zn5, zn6, reduceCtorEq, zn7, zi1, zi2, if_pos, if_neg] <;> rfl) (SInlQ.all hw1 ?_)
  rintro y hp1 nx1 ⟨q, hq1, hq2, rfl⟩
  unfold pathL
  have gP := dgC_len (pvs_dg hgo (visN L.length k 0))
  rw [List.length_map] at gP
  have cP := dgC_clo ((visN L.length k 0).map (pvF (dgsL L)))
  have eP : ((visN L.length k 0).map (pvF (dgsL L))).length = (visN L.length k 0).length := List.length_map _
  rw [eP]
  generalize dgC ((visN L.length k 0).map (pvF (dgsL L))) = P0 at *
  generalize (visN L.length k 0).length = m at *
  have tP : P0.take (m * 32) = P0 := List.take_of_length_le (by omega)
  have n1 : (1 = q) = False := eq_false (by omega)
  have n3 : (3 = q) = False := eq_false (by omega)
  have n1' : (q = 1) = False := eq_false (by omega)
  have n3' : (q = 3) = False := eq_false (by omega)
  have n2' : (q = 2) = False := eq_false (by omega)
  (repeat (first | refine DO.nil (by kernel_rfl) ?_ | (with_reducible first | apply oz1 | apply oz2 | apply oz3 | apply oz4 | apply oz5 | apply oz6 | apply oz7 | apply oz8 | apply oz9 | apply ozb | apply ozc | apply oze | apply ozf | apply ozg | apply ozh | apply ozi | apply ozj | apply ozk | refine ozd (by decide) ?_) | ((first | apply SO.call | apply DO.call); (iterate 3 (focus (simp (disch := omega) only [go_sem, ↓reduceIte, zn1, zn2, zn3, zn4, zn5, zn6, reduceCtorEq, zn7, zi1, zi2, if_pos, if_neg, n1, n3, n1', n3', n2', gP, cP, tP] <;> rfl))); (first | apply SCall.ofX | apply DCall.ofX); (focus (first | assumption)); (focus (simp (disch := omega) only [go_sem, ↓reduceIte, zn1, zn2, zn3, zn4, zn5, zn6, reduceCtorEq, zn7, zi1, zi2, if_pos, if_neg, n1, n3, n1', n3', n2', gP, cP, tP] <;> rfl))) | ((with_reducible first | apply SC.condB | apply SC.region | apply SO.run | apply DO.run); (focus (simp (disch := omega) only [go_sem, ↓reduceIte, zn1, zn2, zn3, zn4, zn5, zn6, reduceCtorEq, zn7, zi1, zi2, if_pos, if_neg, n1, n3, n1', n3', n2', gP, cP, tP] <;> rfl)); (first | refine pickT ?_ | refine pickF ?_ | fail_if_success with_reducible refine pickA ?_)) | ((with_reducible refine SC.draw Tab.mixed ?_ ?_); (focus (first | rfl | simp (disch := omega) only [go_sem, ↓reduceIte, zn1, zn2, zn3, zn4, zn5, zn6, reduceCtorEq, zn7, zi1, zi2, if_pos, if_neg, n1, n3, n1', n3', n2', gP, cP, tP]))) | (with_reducible apply SC.ops)))
  exact retQ_ret Tryd.results10 (by simp (disch := omega) only [go_sem, ↓reduceIte, zn1, zn2, zn3, zn4, zn5, zn6, reduceCtorEq, zn7, zi1, zi2, if_pos, if_neg, n1, n3, n1', n3', n2', gP, cP, tP, ct, List.drop_zero] <;> rfl) (by simp (disch := omega) only [go_sem, ↓reduceIte, zn1, zn2, zn3, zn4, zn5, zn6, reduceCtorEq, zn7, zi1, zi2, if_pos, if_neg, n1, n3, n1', n3', n2', gP, cP, tP, ct, List.drop_zero] <;> rfl) rfl
end Go.Proofs.YtpbnhioelmgaiaaDoor
