/- Texts joined: Cs Ct Cu. -/
import Derived.Test.YtpbnhioelmgaiaaDoorZc
import Derived.Test.YtpbnhioelmgaiaaDoorZh
set_option linter.all false
open Nat renaming reduceEqDiff → zn1, reduceLT → zn2, reduceLeDiff → zn3, reduceAdd → zn4, reduceMul → zn5, reduceSub → zn6, reduceBEq → zn7
open Int renaming reduceToNat → zi1, reducePow → zi2
namespace Go.Proofs.YtpbnhioelmgaiaaDoor
open Go.RowKit
def digM (n : Int) : List Int := if n = 0 then [] else [(n.natAbs : Int)]
def digC (n : Int) : List V := [.sc (.bool (decide (n < 0))), .im (uv (digM n)) (digM n).length]
def Dig (n : Int) : Prop := -9 ≤ n ∧ n ≤ 9
theorem of_dig {n : Int} (h : Dig n) : Spec Tryd.prog 19 [.sc (.int .i64 n)] (.ag (digC n)) := by
  obtain ⟨h1, h2⟩ := h
  have key : ∀ k : Nat, k < 19 → Spec Tryd.prog 19 [.sc (.int .i64 ((k : Int) - 9))] (.ag (digC ((k : Int) - 9))) := by
    intro k hk
    match k, hk with
    | 0, _ | 1, _ | 2, _ | 3, _ | 4, _ | 5, _ | 6, _ | 7, _ | 8, _ | 9, _ | 10, _ | 11, _ | 12, _ | 13, _ | 14, _ | 15, _ | 16, _ | 17, _ | 18, _ => exact Spec.eval (K := fun _ _ => none) (fun _ _ _ h => by cases h) 60 (fun _ => false) (by kernel_rfl)
    | n + 19, hk => exact absurd hk (by omega)
  have := key (n + 9).toNat (by omega)
  rw [show (((n + 9).toNat : Nat) : Int) - 9 = n by omega] at this
  exact this
theorem sign_s (b : Bool) (m : List Int) : Spec Tryd.prog 63 [.ag [.sc (.bool b), .im (uv m) m.length]] (.sc (.int .i64 (if m.length = 0 then 0 else if b then -1 else 1))) := by
  by_cases h : m.length = 0
  · have q1 : ((m.length : Int) == 0) = true := by rw [beq_iff_eq]; omega
    rw [if_pos h]
    refine Spec.run Tryd.func63 rfl Tryd.ntmps63 (by simp) (by simp (disch := omega) only [go_sem, ↓reduceIte, zn1, zn2, zn3, zn4, zn5, zn6, reduceCtorEq, zn7, zi1, zi2, if_pos, if_neg]; rfl) fun B hB => ?_
    (repeat (first | refine DO.nil (by kernel_rfl) ?_ | (with_reducible first | apply oz1 | apply oz2 | apply oz3 | apply oz4 | apply oz5 | apply oz6 | apply oz7 | apply oz8 | apply oz9 | apply ozb | apply ozc | apply oze | apply ozf | apply ozg | apply ozh | apply ozi | apply ozj | apply ozk | refine ozd (by decide) ?_) | ((first | apply SO.call | apply DO.call); (iterate 3 (focus (simp (disch := omega) only [go_sem, ↓reduceIte, zn1, zn2, zn3, zn4, zn5, zn6, reduceCtorEq, zn7, zi1, zi2, if_pos, if_neg, q1] <;> rfl))); (first | apply SCall.ofX | apply DCall.ofX); (focus (first | assumption)); (focus (simp (disch := omega) only [go_sem, ↓reduceIte, zn1, zn2, zn3, zn4, zn5, zn6, reduceCtorEq, zn7, zi1, zi2, if_pos, if_neg, q1] <;> rfl))) | ((with_reducible first | apply SC.condB | apply SC.region | apply SO.run | apply DO.run); (focus (simp (disch := omega) only [go_sem, ↓reduceIte, zn1, zn2, zn3, zn4, zn5, zn6, reduceCtorEq, zn7, zi1, zi2, if_pos, if_neg, q1] <;> rfl)); (first | refine pickT ?_ | refine pickF ?_ | fail_if_success with_reducible refine pickA ?_)) | ((with_reducible refine SC.draw Tab.mixed ?_ ?_); (focus (first | rfl | simp (disch := omega) only [go_sem, ↓reduceIte, zn1, zn2, zn3, zn4, zn5, zn6, reduceCtorEq, zn7, zi1, zi2, if_pos, if_neg, q1]))) | (with_reducible apply SC.ops)))
    exact retQ_ret Tryd.results63 (by simp (disch := omega) only [go_sem, ↓reduceIte, zn1, zn2, zn3, zn4, zn5, zn6, reduceCtorEq, zn7, zi1, zi2, if_pos, if_neg] <;> rfl) (by simp (disch := omega) only [go_sem, ↓reduceIte, zn1, zn2, zn3, zn4, zn5, zn6, reduceCtorEq, zn7, zi1, zi2, if_pos, if_neg] <;> rfl) rfl
  · have q1 : ((m.length : Int) == 0) = false := by rw [beq_eq_false_iff_ne]; omega
    rw [if_neg h]
    cases b
    · refine Spec.run Tryd.func63 rfl Tryd.ntmps63 (by simp) (by simp (disch := omega) only [go_sem, ↓reduceIte, zn1, zn2, zn3, zn4, zn5, zn6, reduceCtorEq, zn7, zi1, zi2, if_pos, if_neg]; rfl) fun B hB => ?_
      (repeat (first | refine DO.nil (by kernel_rfl) ?_ | (with_reducible first | apply oz1 | apply oz2 | apply oz3 | apply oz4 | apply oz5 | apply oz6 | apply oz7 | apply oz8 | apply oz9 | apply ozb | apply ozc | apply oze | apply ozf | apply ozg | apply ozh | apply ozi | apply ozj | apply ozk | refine ozd (by decide) ?_) | ((first | apply SO.call | apply DO.call); (iterate 3 (focus (simp (disch := omega) only [go_sem, ↓reduceIte, zn1, zn2, zn3, zn4, zn5, zn6, reduceCtorEq, zn7, zi1, zi2, if_pos, if_neg, q1] <;> rfl))); (first | apply SCall.ofX | apply DCall.ofX); (focus (first | assumption)); (focus (simp (disch := omega) only [go_sem, ↓reduceIte, zn1, zn2, zn3, zn4, zn5, zn6, reduceCtorEq, zn7, zi1, zi2, if_pos, if_neg, q1] <;> rfl))) | ((with_reducible first | apply SC.condB | apply SC.region | apply SO.run | apply DO.run); (focus (simp (disch := omega) only [go_sem, ↓reduceIte, zn1, zn2, zn3, zn4, zn5, zn6, reduceCtorEq, zn7, zi1, zi2, if_pos, if_neg, q1] <;> rfl)); (first | refine pickT ?_ | refine pickF ?_ | fail_if_success with_reducible refine pickA ?_)) | ((with_reducible refine SC.draw Tab.mixed ?_ ?_); (focus (first | rfl | simp (disch := omega) only [go_sem, ↓reduceIte, zn1, zn2, zn3, zn4, zn5, zn6, reduceCtorEq, zn7, zi1, zi2, if_pos, if_neg, q1]))) | (with_reducible apply SC.ops)))
      exact retQ_ret Tryd.results63 (by simp (disch := omega) only [go_sem, ↓reduceIte, zn1, zn2, zn3, zn4, zn5, zn6, reduceCtorEq, zn7, zi1, zi2, if_pos, if_neg] <;> rfl) (by simp (disch := omega) only [go_sem, ↓reduceIte, zn1, zn2, zn3, zn4, zn5, zn6, reduceCtorEq, zn7, zi1, zi2, if_pos, if_neg] <;> rfl) rfl
    · refine Spec.run Tryd.func63 rfl Tryd.ntmps63 (by simp) (by simp (disch := omega) only [go_sem, ↓reduceIte, zn1, zn2, zn3, zn4, zn5, zn6, reduceCtorEq, zn7, zi1, zi2, if_pos, if_neg]; rfl) fun B hB => ?_
      (repeat (first | refine DO.nil (by kernel_rfl) ?_ | (with_reducible first | apply oz1 | apply oz2 | apply oz3 | apply oz4 | apply oz5 | apply oz6 | apply oz7 | apply oz8 | apply oz9 | apply ozb | apply ozc | apply oze | apply ozf | apply ozg | apply ozh | apply ozi | apply ozj | apply ozk | refine ozd (by decide) ?_) | ((first | apply SO.call | apply DO.call); (iterate 3 (focus (simp (disch := omega) only [go_sem, ↓reduceIte, zn1, zn2, zn3, zn4, zn5, zn6, reduceCtorEq, zn7, zi1, zi2, if_pos, if_neg, q1] <;> rfl))); (first | apply SCall.ofX | apply DCall.ofX); (focus (first | assumption)); (focus (simp (disch := omega) only [go_sem, ↓reduceIte, zn1, zn2, zn3, zn4, zn5, zn6, reduceCtorEq, zn7, zi1, zi2, if_pos, if_neg, q1] <;> rfl))) | ((with_reducible first | apply SC.condB | apply SC.region | apply SO.run | apply DO.run); (focus (simp (disch := omega) only [go_sem, ↓reduceIte, zn1, zn2, zn3, zn4, zn5, zn6, reduceCtorEq, zn7, zi1, zi2, if_pos, if_neg, q1] <;> rfl)); (first | refine pickT ?_ | refine pickF ?_ | fail_if_success with_reducible refine pickA ?_)) | ((with_reducible refine SC.draw Tab.mixed ?_ ?_); (focus (first | rfl | simp (disch := omega) only [go_sem, ↓reduceIte, zn1, zn2, zn3, zn4, zn5, zn6, reduceCtorEq, zn7, zi1, zi2, if_pos, if_neg, q1]))) | (with_reducible apply SC.ops)))
      exact retQ_ret Tryd.results63 (by simp (disch := omega) only [go_sem, ↓reduceIte, zn1, zn2, zn3, zn4, zn5, zn6, reduceCtorEq, zn7, zi1, zi2, if_pos, if_neg] <;> rfl) (by simp (disch := omega) only [go_sem, ↓reduceIte, zn1, zn2, zn3, zn4, zn5, zn6, reduceCtorEq, zn7, zi1, zi2, if_pos, if_neg] <;> rfl) rfl
def vecC (l : List Int) : List V := l.flatMap digC
theorem vecC_len : ∀ l : List Int, (vecC l).length = l.length * 2
  | [] => rfl
  | t :: l => by show (digC t ++ vecC l).length = _; rw [List.length_append, vecC_len l, List.length_cons, Nat.add_mul]; show 2 + _ = _; omega
theorem vecC_drop : ∀ {l : List Int} {i : Nat}, i < l.length → (vecC l).drop (i * 2) = digC (l.getD i 0) ++ (vecC l).drop ((i + 1) * 2)
  | t :: l, 0, _ => rfl
  | t :: l, i + 1, h => by
    have h' : i < l.length := by simpa using h
    have e : ∀ k, (vecC (t :: l)).drop ((k + 1) * 2) = (vecC l).drop (k * 2) := fun k => by
      rw [show (k + 1) * 2 = k * 2 + 1 + 1 by omega]; rfl
    rw [e, e, vecC_drop h']; rfl
theorem vecC_clo (l : List Int) : (vecC l).all clo = true := by
  rw [List.all_eq_true]
  intro x hx
  obtain ⟨t, _, hx⟩ := List.mem_flatMap.1 hx
  simp only [digC, List.mem_cons, List.not_mem_nil, or_false] at hx
  rcases hx with rfl | rfl <;> rfl
theorem vecC_app (a b : List Int) : vecC (a ++ b) = vecC a ++ vecC b := by simp [vecC]
def tmD (k : Nat) (n : Int) : List Tm := if n = 0 then [] else [⟨k, decide (n < 0), digM n⟩]
def rowTk (r : List Int) : Nat → List Tm
  | 0 => []
  | k + 1 => rowTk r k ++ tmD k (r.getD k 0)
def rowT (r : List Int) : List Tm := rowTk r r.length
theorem rowTk_len (r : List Int) : ∀ k, (rowTk r k).length ≤ k
  | 0 => Nat.le_refl _
  | k + 1 => by
    have := rowTk_len r k
    rw [rowTk, List.length_append]
    unfold tmD
    split
    · show _ + 0 ≤ _; omega
    · show _ + 1 ≤ _; omega
theorem rowTk_ok {r : List Int} : ∀ k, k ≤ 1000 → ∀ t ∈ rowTk r k, t.Ok
  | 0, _, t, h => by cases h
  | k + 1, hk, t, h => by
    rcases List.mem_append.1 h with h | h
    · exact rowTk_ok k (by omega) t h
    · unfold tmD at h
      split at h
      · cases h
      · rw [List.mem_singleton.1 h]
        exact ⟨Int.natCast_nonneg k, by show (k : Int) ≤ _; omega, by show (digM _).length ≤ _; unfold digM; split <;> simp⟩
theorem tmsC_app (a b : List Tm) : tmsC (a ++ b) = tmsC a ++ tmsC b := by simp [tmsC]
set_option maxHeartbeats 4000000 in
set_option maxRecDepth 8000 in
theorem srow_s {r : List Int} (hn : r.length ≤ 100) : Spec Tryd.prog 54 [.im (vecC r) r.length] (.im (tmsC (rowT r)) (rowT r).length) := by
  generalize hT : rowT r = T
  refine Spec.run Tryd.func54 rfl Tryd.ntmps54 (by simp) (by simp (disch := omega) only [go_sem, ↓reduceIte, zn1, zn2, zn3, zn4, zn5, zn6, reduceCtorEq, zn7, zi1, zi2, if_pos, if_neg]; rfl) fun B hB => ?_
  (repeat (first | refine DO.nil (by kernel_rfl) ?_ | (with_reducible first | apply oz1 | apply oz2 | apply oz3 | apply oz4 | apply oz5 | apply oz6 | apply oz7 | apply oz8 | apply oz9 | apply ozb | apply ozc | apply oze | apply ozf | apply ozg | apply ozh | apply ozi | apply ozj | apply ozk | refine ozd (by decide) ?_) | ((first | apply SO.call | apply DO.call); (iterate 3 (focus (simp (disch := omega) only [go_sem, ↓reduceIte, zn1, zn2, zn3, zn4, zn5, zn6, reduceCtorEq, zn7, zi1, zi2, if_pos, if_neg] <;> rfl))); (first | apply SCall.ofX | apply DCall.ofX); (focus (first | assumption)); (focus (simp (disch := omega) only [go_sem, ↓reduceIte, zn1, zn2, zn3, zn4, zn5, zn6, reduceCtorEq, zn7, zi1, zi2, if_pos, if_neg] <;> rfl))) | ((with_reducible first | apply SC.condB | apply SC.region | apply SO.run | apply DO.run); (focus (simp (disch := omega) only [go_sem, ↓reduceIte, zn1, zn2, zn3, zn4, zn5, zn6, reduceCtorEq, zn7, zi1, zi2, if_pos, if_neg] <;> rfl)); (first | refine pickT ?_ | refine pickF ?_ | fail_if_success with_reducible refine pickA ?_)) | ((with_reducible refine SC.draw Tab.mixed ?_ ?_); (focus (first | rfl | simp (disch := omega) only [go_sem, ↓reduceIte, zn1, zn2, zn3, zn4, zn5, zn6, reduceCtorEq, zn7, zi1, zi2, if_pos, if_neg]))) | (with_reducible apply SC.ops)))
  refine SC.loop (fun k : Nat => ⟨[(0, .im (vecC r) r.length), (3, .sl 0 0 (rowTk r k).length 3 none), (4, .sc (.int .i64 k))], [(0, ⟨53, tmsC (rowTk r k), false⟩)], 1, 28⟩)
    (fun k => k ≤ r.length) (fun k => r.length - k) 0 ?_ ?_ ?_
  · have e : tmsC (rowTk r 0) = [] := rfl
    have e2 : (rowTk r 0).length = 0 := rfl
    simp only [e, e2]
    (refine Le.slots ?_ ?_ ?_ <;> (repeat' (first | (exact fun _ _ h => h) | exact Nat.le_refl _ | exact leSl_nil | refine leSl_cons (by simp (disch := omega) only [go_sem, ↓reduceIte, zn1, zn2, zn3, zn4, zn5, zn6, reduceCtorEq, zn7, zi1, zi2, if_pos, if_neg] <;> rfl) ?_ ?_ | exact VLe.junk _ | exact VLe.refl rfl | exact VLe.nil_sl _ _ _ | exact VLe.int (by first | rfl | omega | (dsimp only; omega)) | exact VLe.bool rfl | exact VLe.sl rfl (by first | rfl | omega) | exact VLe.cap rfl (by first | rfl | omega) | exact VLe.im rfl rfl | omega | (refine fun id k h => ?_; simp only [hget] at h ⊢; (repeat' (split at h)) <;> first | (cases h; done) | (simp (disch := omega) only [if_pos, if_neg]; exact h)))))
  · exact Nat.zero_le _
  · intro k hk K hK
    have l0 := rowTk_len r k
    have gl := tmsC_len (rowTk r k)
    have gc := tmsC_clo (rowTk r k)
    have gt : (tmsC (rowTk r k)).take ((rowTk r k).length * 3) = tmsC (rowTk r k) := List.take_of_length_le (by omega)
    by_cases hc : k < r.length
    · have q1 : decide ((k : Int) < (r.length : Int)) = true := decide_eq_true (by omega)
      have g1 := vecC_drop hc
      have g2 := vecC_len r
      have g3 : k * 2 < (vecC r).length := by omega
      have e : rowTk r (k + 1) = rowTk r k ++ tmD k (r.getD k 0) := rfl
      have hK2 : ∀ s' : SS, _ → K s' := fun s' h => hK s' (k + 1) h (by omega) (by omega)
      rw [e, tmsC_app] at hK2
      clear hK e
      generalize r.getD k 0 = n at *
      generalize (vecC r).drop ((k + 1) * 2) = DD at *
      by_cases hz : n = 0
      · subst hz
        have c1 : Spec Tryd.prog 63 [.ag [.sc (.bool false), .im (uv []) 0]] (.sc (.int .i64 0)) := sign_s false []
        have e3 : tmD k 0 = [] := rfl
        rw [e3] at hK2
        have e4 : tmsC [] = [] := rfl
        rw [e4, List.append_nil, List.append_nil] at hK2
        have e5 : digC 0 = [.sc (.bool false), .im (uv []) 0] := rfl
        rw [e5] at g1
        (repeat (first | refine DO.nil (by kernel_rfl) ?_ | (with_reducible first | apply oz1 | apply oz2 | apply oz3 | apply oz4 | apply oz5 | apply oz6 | apply oz7 | apply oz8 | apply oz9 | apply ozb | apply ozc | apply oze | apply ozf | apply ozg | apply ozh | apply ozi | apply ozj | apply ozk | refine ozd (by decide) ?_) | ((first | apply SO.call | apply DO.call); (iterate 3 (focus (simp (disch := omega) only [go_sem, ↓reduceIte, zn1, zn2, zn3, zn4, zn5, zn6, reduceCtorEq, zn7, zi1, zi2, if_pos, if_neg, q1, g1, g3, List.cons_append, List.nil_append, bne_self_eq_false] <;> rfl))); (first | apply SCall.ofX | apply DCall.ofX); (focus (first | assumption)); (focus (simp (disch := omega) only [go_sem, ↓reduceIte, zn1, zn2, zn3, zn4, zn5, zn6, reduceCtorEq, zn7, zi1, zi2, if_pos, if_neg, q1, g1, g3, List.cons_append, List.nil_append, bne_self_eq_false] <;> rfl))) | ((with_reducible first | apply SC.condB | apply SC.region | apply SO.run | apply DO.run); (focus (simp (disch := omega) only [go_sem, ↓reduceIte, zn1, zn2, zn3, zn4, zn5, zn6, reduceCtorEq, zn7, zi1, zi2, if_pos, if_neg, q1, g1, g3, List.cons_append, List.nil_append, bne_self_eq_false] <;> rfl)); (first | refine pickT ?_ | refine pickF ?_ | fail_if_success with_reducible refine pickA ?_)) | ((with_reducible refine SC.draw Tab.mixed ?_ ?_); (focus (first | rfl | simp (disch := omega) only [go_sem, ↓reduceIte, zn1, zn2, zn3, zn4, zn5, zn6, reduceCtorEq, zn7, zi1, zi2, if_pos, if_neg, q1, g1, g3, List.cons_append, List.nil_append, bne_self_eq_false]))) | (with_reducible apply SC.ops)))
        refine hK2 _ ?_
        (refine Le.slots ?_ ?_ ?_ <;> (repeat' (first | (exact fun _ _ h => h) | exact Nat.le_refl _ | exact leSl_nil | refine leSl_cons (by simp (disch := omega) only [go_sem, ↓reduceIte, zn1, zn2, zn3, zn4, zn5, zn6, reduceCtorEq, zn7, zi1, zi2, if_pos, if_neg] <;> rfl) ?_ ?_ | exact VLe.junk _ | exact VLe.refl rfl | exact VLe.nil_sl _ _ _ | exact VLe.int (by first | rfl | omega | (dsimp only; omega)) | exact VLe.bool rfl | exact VLe.sl rfl (by first | rfl | omega) | exact VLe.cap rfl (by first | rfl | omega) | exact VLe.im rfl rfl | omega | (refine fun id k h => ?_; simp only [hget] at h ⊢; (repeat' (split at h)) <;> first | (cases h; done) | (simp (disch := omega) only [if_pos, if_neg]; exact h)))))
      · have e5 : digM n = [(n.natAbs : Int)] := by unfold digM; rw [if_neg hz]
        have c1 := sign_s (decide (n < 0)) (digM n)
        have e3 : tmD k n = [⟨k, decide (n < 0), digM n⟩] := by unfold tmD; rw [if_neg hz]
        have e6 : tmsC [⟨k, decide (n < 0), digM n⟩] = [.sc (.int .i64 k), .sc (.bool (decide (n < 0))), .im (uv (digM n)) (digM n).length] := rfl
        have hcl := tmsC_clo (rowTk r k ++ [⟨k, decide (n < 0), digM n⟩])
        rw [tmsC_app, e6] at hcl
        rw [e3, e6] at hK2
        unfold digC at g1
        have hs : ((if (digM n).length = 0 then (0 : Int) else if decide (n < 0) = true then -1 else 1) != 0) = true := by
          rw [e5]
          show ((if decide (n < 0) = true then (-1 : Int) else 1) != 0) = true
          split <;> rfl
        generalize (if (digM n).length = 0 then (0 : Int) else if decide (n < 0) = true then -1 else 1) = sg at *
        rw [List.length_append, List.length_singleton] at hK2
        generalize digM n = mg at *
        generalize decide (n < 0) = bn at *
        generalize tmsC (rowTk r k) = C0 at *
        generalize (rowTk r k).length = ln at *
        generalize vecC r = VR at *
        (repeat (first | refine DO.nil (by kernel_rfl) ?_ | (with_reducible first | apply oz1 | apply oz2 | apply oz3 | apply oz4 | apply oz5 | apply oz6 | apply oz7 | apply oz8 | apply oz9 | apply ozb | apply ozc | apply oze | apply ozf | apply ozg | apply ozh | apply ozi | apply ozj | apply ozk | refine ozd (by decide) ?_) | ((first | apply SO.call | apply DO.call); (iterate 3 (focus (simp (disch := omega) only [go_sem, ↓reduceIte, zn1, zn2, zn3, zn4, zn5, zn6, reduceCtorEq, zn7, zi1, zi2, if_pos, if_neg, q1, g1, g3, hs, gl, gt, List.cons_append, List.nil_append, List.append_nil, List.drop_zero, Nat.mul_one, Nat.one_mul] <;> rfl))); (first | apply SCall.ofX | apply DCall.ofX); (focus (first | assumption)); (focus (simp (disch := omega) only [go_sem, ↓reduceIte, zn1, zn2, zn3, zn4, zn5, zn6, reduceCtorEq, zn7, zi1, zi2, if_pos, if_neg, q1, g1, g3, hs, gl, gt, List.cons_append, List.nil_append, List.append_nil, List.drop_zero, Nat.mul_one, Nat.one_mul] <;> rfl))) | ((with_reducible first | apply SC.condB | apply SC.region | apply SO.run | apply DO.run); (focus (simp (disch := omega) only [go_sem, ↓reduceIte, zn1, zn2, zn3, zn4, zn5, zn6, reduceCtorEq, zn7, zi1, zi2, if_pos, if_neg, q1, g1, g3, hs, gl, gt, List.cons_append, List.nil_append, List.append_nil, List.drop_zero, Nat.mul_one, Nat.one_mul] <;> rfl)); (first | refine pickT ?_ | refine pickF ?_ | fail_if_success with_reducible refine pickA ?_)) | ((with_reducible refine SC.draw Tab.mixed ?_ ?_); (focus (first | rfl | simp (disch := omega) only [go_sem, ↓reduceIte, zn1, zn2, zn3, zn4, zn5, zn6, reduceCtorEq, zn7, zi1, zi2, if_pos, if_neg, q1, g1, g3, hs, gl, gt, List.cons_append, List.nil_append, List.append_nil, List.drop_zero, Nat.mul_one, Nat.one_mul]))) | (with_reducible apply SC.ops)))
        refine hK2 _ ?_
        refine Le.ren 0 2 hB (by omega) (by omega) (by omega) ?_ ?_
        · (repeat' (first | exact trivial | refine mapSl_cons (by simp (disch := omega) only [go_sem, ↓reduceIte, zn1, zn2, zn3, zn4, zn5, zn6, reduceCtorEq, zn7, zi1, zi2, if_pos, if_neg] <;> rfl) ?_ ?_ | exact VMap.junk _ | exact VMap.sc _ | exact VMap.clo rfl | exact VMap.sl rfl (by omega) | exact VMap.cap rfl (by omega) | exact VMap.pt rfl (by omega) | exact VMap.nil_sl _ _ _ | exact VMap.int (by first | rfl | omega | (dsimp only; omega))))
        · (repeat' (first | exact mapHp_nil | refine mapHp_cons (by simp (disch := omega) only [go_sem, ↓reduceIte, zn1, zn2, zn3, zn4, zn5, zn6, reduceCtorEq, zn7, zi1, zi2, if_pos, if_neg] <;> rfl) ?_ ?_ | exact BMap.clo (by first | rfl | assumption | exact wv_clo _ | exact imR_clo _ _ | exact nv_clo _) | refine BMap.list ?_ | exact mapL_nil | refine mapL_cons ?_ ?_ | exact VMap.junk _ | exact VMap.sc _ | exact VMap.clo rfl | exact VMap.sl rfl (by omega) | exact VMap.cap rfl (by omega) | exact VMap.pt rfl (by omega) | exact VMap.nil_sl _ _ _ | exact VMap.int (by first | rfl | omega | (dsimp only; omega))))
    · have q1 : decide ((k : Int) < (r.length : Int)) = false := decide_eq_false (by omega)
      have hkr : k = r.length := by omega
      subst hkr
      have hT2 : rowTk r r.length = T := hT
      rw [hT2] at gl gc gt ⊢
      clear hK
      generalize tmsC T = C0 at *
      generalize T.length = n at *
      (repeat (first | refine DO.nil (by kernel_rfl) ?_ | (with_reducible first | apply oz1 | apply oz2 | apply oz3 | apply oz4 | apply oz5 | apply oz6 | apply oz7 | apply oz8 | apply oz9 | apply ozb | apply ozc | apply oze | apply ozf | apply ozg | apply ozh | apply ozi | apply ozj | apply ozk | refine ozd (by decide) ?_) | ((first | apply SO.call | apply DO.call); (iterate 3 (focus (simp (disch := omega) only [go_sem, ↓reduceIte, zn1, zn2, zn3, zn4, zn5, zn6, reduceCtorEq, zn7, zi1, zi2, if_pos, if_neg, q1] <;> rfl))); (first | apply SCall.ofX | apply DCall.ofX); (focus (first | assumption)); (focus (simp (disch := omega) only [go_sem, ↓reduceIte, zn1, zn2, zn3, zn4, zn5, zn6, reduceCtorEq, zn7, zi1, zi2, if_pos, if_neg, q1] <;> rfl))) | ((with_reducible first | apply SC.condB | apply SC.region | apply SO.run | apply DO.run); (focus (simp (disch := omega) only [go_sem, ↓reduceIte, zn1, zn2, zn3, zn4, zn5, zn6, reduceCtorEq, zn7, zi1, zi2, if_pos, if_neg, q1] <;> rfl)); (first | refine pickT ?_ | refine pickF ?_ | fail_if_success with_reducible refine pickA ?_)) | ((with_reducible refine SC.draw Tab.mixed ?_ ?_); (focus (first | rfl | simp (disch := omega) only [go_sem, ↓reduceIte, zn1, zn2, zn3, zn4, zn5, zn6, reduceCtorEq, zn7, zi1, zi2, if_pos, if_neg, q1]))) | (with_reducible apply SC.ops)))
      exact retQ_ret Tryd.results54 (by simp (disch := omega) only [go_sem, ↓reduceIte, zn1, zn2, zn3, zn4, zn5, zn6, reduceCtorEq, zn7, zi1, zi2, if_pos, if_neg, gc, gt, gl, List.drop_zero, Nat.zero_mul] <;> rfl) (by simp (disch := omega) only [go_sem, ↓reduceIte, zn1, zn2, zn3, zn4, zn5, zn6, reduceCtorEq, zn7, zi1, zi2, if_pos, if_neg, gc, gt, gl, List.drop_zero, Nat.zero_mul] <;> rfl) rfl
end Go.Proofs.YtpbnhioelmgaiaaDoor
namespace Go.Proofs.YtpbnhioelmgaiaaDoor
open Go.RowKit
def i8v (l : List Int) : List V := l.map fun x => .sc (.int .i8 x)
theorem i8v_len (l : List Int) : (i8v l).length = l.length := by simp [i8v]
theorem i8v_get {l : List Int} {i : Nat} (h : i < l.length) : (i8v l)[i]? = some (.sc (.int .i8 (l.getD i 0))) := by
  unfold i8v; rw [List.getElem?_map, getD_some (d := 0) h]; rfl
def dgt (l : List Int) (j : Nat) : Int := if j < l.length then (l.getD j 0).tmod 10 else 0
theorem tmod10 (x : Int) : Dig (x.tmod 10) := by
  have h1 := Int.tmod_lt_of_pos x (show (0 : Int) < 10 by omega)
  have h2 := Int.lt_tmod_of_pos x (show (0 : Int) < 10 by omega)
  unfold Dig; omega
theorem dgt_dig (l : List Int) (j : Nat) : Dig (dgt l j) := by
  unfold dgt; split
  · exact tmod10 _
  · exact ⟨by omega, by omega⟩
def rowD (l : List Int) (w i : Nat) : List Int := (List.range w).map fun k => dgt l (i * w + k)
def matD (l : List Int) (h w : Nat) : List (List Int) := (List.range h).map fun i => rowD l w i
theorem rowD_len (l : List Int) (w i : Nat) : (rowD l w i).length = w := by simp [rowD]
theorem matD_len (l : List Int) (h w : Nat) : (matD l h w).length = h := by simp [matD]
def vsC (w : Nat) (D : List (List Int)) : List V := D.map fun r => .im (vecC r) w
theorem vsC_len (w : Nat) (D : List (List Int)) : (vsC w D).length = D.length := by simp [vsC]
theorem vsC_clo (w : Nat) (D : List (List Int)) : (vsC w D).all clo = true := by simp [vsC, clo]
theorem vsC_one (w : Nat) (D : List (List Int)) : (vsC w D).all V.one = true := by simp [vsC, V.one]
theorem range_take {α : Type} (f : Nat → α) {n i : Nat} (h : i < n) : (((List.range n).map f).take (i + 1)) = (((List.range n).map f).take i) ++ [f i] := by
  rw [List.take_add_one, List.getElem?_map, List.getElem?_range h]; rfl
theorem vsC_take {l : List Int} {h w i : Nat} (hi : i < h) : vsC w ((matD l h w).take i) ++ [.im (vecC (rowD l w i)) w] = vsC w ((matD l h w).take (i + 1)) := by
  unfold matD
  rw [range_take _ hi]
  unfold vsC; rw [List.map_append]; rfl
theorem vecC_take {l : List Int} {w i k : Nat} (hk : k < w) : vecC ((rowD l w i).take k) ++ digC (dgt l (i * w + k)) = vecC ((rowD l w i).take (k + 1)) := by
  unfold rowD
  rw [range_take _ hk, vecC_app]
  congr 1
set_option maxHeartbeats 4000000 in
set_option maxRecDepth 8000 in
theorem ssized_s {l : List Int} {a b : Int} {h w : Nat} (hh : h ≤ 100) (hw : w ≤ 100) (hl : l.length ≤ 9223372036854775807) (h8 : ∀ x ∈ l, -128 ≤ x ∧ x ≤ 127) : Spec Tryd.prog 26 [.ag [.sc (.int .u8 a), .sc (.int .u8 b), .im (i8v l) l.length], .sc (.int .i64 h), .sc (.int .i64 w)] (.ag [.sc (.int .i64 h), .sc (.int .i64 w), .im (vsC w (matD l h w)) h]) := by
  have gl8 := i8v_len l
  refine Spec.run Tryd.func26 rfl Tryd.ntmps26 (by simp) (by simp (disch := omega) only [go_sem, ↓reduceIte, zn1, zn2, zn3, zn4, zn5, zn6, reduceCtorEq, zn7, zi1, zi2, if_pos, if_neg]; rfl) fun B hB => ?_
  (repeat (first | refine DO.nil (by kernel_rfl) ?_ | (with_reducible first | apply oz1 | apply oz2 | apply oz3 | apply oz4 | apply oz5 | apply oz6 | apply oz7 | apply oz8 | apply oz9 | apply ozb | apply ozc | apply oze | apply ozf | apply ozg | apply ozh | apply ozi | apply ozj | apply ozk | refine ozd (by decide) ?_) | ((first | apply SO.call | apply DO.call); (iterate 3 (focus (simp (disch := omega) only [go_sem, ↓reduceIte, zn1, zn2, zn3, zn4, zn5, zn6, reduceCtorEq, zn7, zi1, zi2, if_pos, if_neg] <;> rfl))); (first | apply SCall.ofX | apply DCall.ofX); (focus (first | assumption)); (focus (simp (disch := omega) only [go_sem, ↓reduceIte, zn1, zn2, zn3, zn4, zn5, zn6, reduceCtorEq, zn7, zi1, zi2, if_pos, if_neg] <;> rfl))) | ((with_reducible first | apply SC.condB | apply SC.region | apply SO.run | apply DO.run); (focus (simp (disch := omega) only [go_sem, ↓reduceIte, zn1, zn2, zn3, zn4, zn5, zn6, reduceCtorEq, zn7, zi1, zi2, if_pos, if_neg] <;> rfl)); (first | refine pickT ?_ | refine pickF ?_ | fail_if_success with_reducible refine pickA ?_)) | ((with_reducible refine SC.draw Tab.mixed ?_ ?_); (focus (first | rfl | simp (disch := omega) only [go_sem, ↓reduceIte, zn1, zn2, zn3, zn4, zn5, zn6, reduceCtorEq, zn7, zi1, zi2, if_pos, if_neg]))) | (with_reducible apply SC.ops)))
  refine SC.loop (fun i : Nat => ⟨[(1, .sc (.int .i64 h)), (2, .sc (.int .i64 w)), (3, .pt 0 0), (6, .pt 1 0), (7, .pt 2 0), (8, .sc (.int .i64 i))], [(2, ⟨68, [.sc (.int .i64 h), .sc (.int .i64 w), .sl 3 0 i 1 none], false⟩), (3, ⟨94, vsC w ((matD l h w).take i), false⟩), (1, ⟨68, [.sc (.int .i64 0), .sc (.int .i64 0), .sc (.slice none 0 0)], false⟩), (0, ⟨30, [.sc (.int .u8 a), .sc (.int .u8 b), .im (i8v l) l.length], false⟩)], 4, 58⟩)
    (fun i => i ≤ h) (fun i => h - i) 0 ?_ ?_ ?_
  · have e0 : vsC w ((matD l h w).take 0) = [] := rfl
    simp only [e0]
    refine nilRow (pre := [.sc (.int .i64 h), .sc (.int .i64 w)]) 2 3 hB (by simp (disch := omega) only [go_sem, ↓reduceIte, zn1, zn2, zn3, zn4, zn5, zn6, reduceCtorEq, zn7, zi1, zi2, if_pos, if_neg] <;> rfl) rfl (by omega) ?_ (Nat.zero_le _) ?_
    · exact ⟨⟨by omega, by omega, by omega, by simp, by simp (disch := omega) only [go_sem, ↓reduceIte, zn1, zn2, zn3, zn4, zn5, zn6, reduceCtorEq, zn7, zi1, zi2, if_pos, if_neg] <;> rfl, rfl⟩, ⟨by omega, by omega, by omega, by simp, by simp (disch := omega) only [go_sem, ↓reduceIte, zn1, zn2, zn3, zn4, zn5, zn6, reduceCtorEq, zn7, zi1, zi2, if_pos, if_neg] <;> rfl, rfl⟩, trivial⟩
    · (repeat' (first | exact trivial | refine mapSl_cons (by simp (disch := omega) only [go_sem, ↓reduceIte, zn1, zn2, zn3, zn4, zn5, zn6, reduceCtorEq, zn7, zi1, zi2, if_pos, if_neg] <;> rfl) ?_ ?_ | exact VMap.junk _ | exact VMap.sc _ | exact VMap.clo rfl | exact VMap.sl rfl (by omega) | exact VMap.cap rfl (by omega) | exact VMap.pt rfl (by omega) | exact VMap.nil_sl _ _ _ | exact VMap.int (by first | rfl | omega | (dsimp only; omega))))
  · exact Nat.zero_le _
  · intro i hi K hK
    by_cases hc : i < h
    · have q1 : decide ((i : Int) < (h : Int)) = true := decide_eq_true (by omega)
      have hK2 : ∀ s' : SS, _ → K s' := fun s' h => hK s' (i + 1) h (by omega) (by omega)
      have gM := vsC_clo w ((matD l h w).take i)
      have gM2 := vsC_one w ((matD l h w).take i)
      have gM3 := vsC_len w ((matD l h w).take i)
      rw [List.length_take, matD_len, Nat.min_eq_left hi] at gM3
      have gM4 : (vsC w ((matD l h w).take i)).take i = vsC w ((matD l h w).take i) := List.take_of_length_le (by omega)
      rw [← vsC_take hc] at hK2
      clear hK
      generalize vsC w ((matD l h w).take i) = M0 at *
      (repeat (first | refine DO.nil (by kernel_rfl) ?_ | (with_reducible first | apply oz1 | apply oz2 | apply oz3 | apply oz4 | apply oz5 | apply oz6 | apply oz7 | apply oz8 | apply oz9 | apply ozb | apply ozc | apply oze | apply ozf | apply ozg | apply ozh | apply ozi | apply ozj | apply ozk | refine ozd (by decide) ?_) | ((first | apply SO.call | apply DO.call); (iterate 3 (focus (simp (disch := omega) only [go_sem, ↓reduceIte, zn1, zn2, zn3, zn4, zn5, zn6, reduceCtorEq, zn7, zi1, zi2, if_pos, if_neg, q1] <;> rfl))); (first | apply SCall.ofX | apply DCall.ofX); (focus (first | assumption)); (focus (simp (disch := omega) only [go_sem, ↓reduceIte, zn1, zn2, zn3, zn4, zn5, zn6, reduceCtorEq, zn7, zi1, zi2, if_pos, if_neg, q1] <;> rfl))) | ((with_reducible first | apply SC.condB | apply SC.region | apply SO.run | apply DO.run); (focus (simp (disch := omega) only [go_sem, ↓reduceIte, zn1, zn2, zn3, zn4, zn5, zn6, reduceCtorEq, zn7, zi1, zi2, if_pos, if_neg, q1] <;> rfl)); (first | refine pickT ?_ | refine pickF ?_ | fail_if_success with_reducible refine pickA ?_)) | ((with_reducible refine SC.draw Tab.mixed ?_ ?_); (focus (first | rfl | simp (disch := omega) only [go_sem, ↓reduceIte, zn1, zn2, zn3, zn4, zn5, zn6, reduceCtorEq, zn7, zi1, zi2, if_pos, if_neg, q1]))) | (with_reducible apply SC.ops)))
      refine SC.loop (fun k : Nat => ⟨[(1, .sc (.int .i64 h)), (2, .sc (.int .i64 w)), (3, .pt 0 0), (6, .pt 1 0), (7, .pt 2 0), (8, .sc (.int .i64 i)), (9, .sl 4 0 k 2 none), (10, .sc (.int .i64 k))], [(4, ⟨51, vecC ((rowD l w i).take k), false⟩), (2, ⟨68, [.sc (.int .i64 h), .sc (.int .i64 w), .sl 3 0 i 1 none], false⟩), (3, ⟨94, M0, false⟩), (1, ⟨68, [.sc (.int .i64 0), .sc (.int .i64 0), .sc (.slice none 0 0)], false⟩), (0, ⟨30, [.sc (.int .u8 a), .sc (.int .u8 b), .im (i8v l) l.length], false⟩)], 5, 58⟩)
        (fun k => k ≤ w) (fun k => w - k) 0 ?_ ?_ ?_
      · have e0 : vecC ((rowD l w i).take 0) = [] := rfl
        simp only [e0]
        (refine Le.slots ?_ ?_ ?_ <;> (repeat' (first | (exact fun _ _ h => h) | exact Nat.le_refl _ | exact leSl_nil | refine leSl_cons (by simp (disch := omega) only [go_sem, ↓reduceIte, zn1, zn2, zn3, zn4, zn5, zn6, reduceCtorEq, zn7, zi1, zi2, if_pos, if_neg] <;> rfl) ?_ ?_ | exact VLe.junk _ | exact VLe.refl rfl | exact VLe.nil_sl _ _ _ | exact VLe.int (by first | rfl | omega | (dsimp only; omega)) | exact VLe.bool rfl | exact VLe.sl rfl (by first | rfl | omega) | exact VLe.cap rfl (by first | rfl | omega) | exact VLe.im rfl rfl | omega | (refine fun id k h => ?_; simp only [hget] at h ⊢; (repeat' (split at h)) <;> first | (cases h; done) | (simp (disch := omega) only [if_pos, if_neg]; exact h)))))
      · exact Nat.zero_le _
      · intro k hk K' hK'
        have gl := vecC_len ((rowD l w i).take k)
        rw [List.length_take, rowD_len, Nat.min_eq_left hk] at gl
        have gt : (vecC ((rowD l w i).take k)).take (k * 2) = vecC ((rowD l w i).take k) := List.take_of_length_le (by omega)
        have gc := vecC_clo ((rowD l w i).take k)
        by_cases hc2 : k < w
        · have q2 : decide ((k : Int) < (w : Int)) = true := decide_eq_true (by omega)
          have c1 := of_dig (dgt_dig l (i * w + k))
          have hcl := vecC_clo ((rowD l w i).take (k + 1))
          rw [← vecC_take hc2] at hcl
          have hK3 : ∀ s' : SS, _ → K' s' := fun s' h => hK' s' (k + 1) h (by omega) (by omega)
          rw [← vecC_take hc2] at hK3
          clear hK'
          have hiw : i * w ≤ 100 * 100 := Nat.mul_le_mul (by omega) hw
          generalize vecC ((rowD l w i).take k) = C0 at *
          have x0 : (i : Int) * (w : Int) = ((i * w : Nat) : Int) := (Int.natCast_mul i w).symm
          generalize i * w = iw at *
          by_cases hj : iw + k < l.length
          · have e : dgt l (iw + k) = (l.getD (iw + k) 0).tmod 10 := by unfold dgt; rw [if_pos hj]
            have q3 : decide (((iw : Nat) : Int) + (k : Int) < (l.length : Int)) = true := decide_eq_true (by omega)
            have g3 := i8v_get hj
            have hb := h8 _ (getDm (d := 0) hj)
            rw [e] at c1 hK3 hcl
            have hd := tmod10 (l.getD (iw + k) 0)
            generalize l.getD (iw + k) 0 = x at *
            obtain ⟨hd1, hd2⟩ := hd
            have x1 : (((iw : Nat) : Int) + (k : Int)).toNat = iw + k := by omega
            have gw : IntKind.i64.wrap (x.tmod 10) = x.tmod 10 := by rw [IntKind.wrap_i64]; omega
            unfold digC at c1 hK3 hcl
            generalize digM (x.tmod 10) = dm at *
            generalize decide (x.tmod 10 < 0) = db at *
            (repeat (first | refine DO.nil (by kernel_rfl) ?_ | (with_reducible first | apply oz1 | apply oz2 | apply oz3 | apply oz4 | apply oz5 | apply oz6 | apply oz7 | apply oz8 | apply oz9 | apply ozb | apply ozc | apply oze | apply ozf | apply ozg | apply ozh | apply ozi | apply ozj | apply ozk | refine ozd (by decide) ?_) | ((first | apply SO.call | apply DO.call); (iterate 3 (focus (simp (disch := omega) only [go_sem, ↓reduceIte, zn1, zn2, zn3, zn4, zn5, zn6, reduceCtorEq, zn7, zi1, zi2, if_pos, if_neg, q2, q3, x0, x1, g3, gl8, gw, gl, gt, List.getElem?_drop, List.cons_append, List.nil_append, List.append_nil, List.drop_zero, Nat.mul_one, Nat.one_mul, Nat.zero_add] <;> rfl))); (first | apply SCall.ofX | apply DCall.ofX); (focus (first | assumption)); (focus (simp (disch := omega) only [go_sem, ↓reduceIte, zn1, zn2, zn3, zn4, zn5, zn6, reduceCtorEq, zn7, zi1, zi2, if_pos, if_neg, q2, q3, x0, x1, g3, gl8, gw, gl, gt, List.getElem?_drop, List.cons_append, List.nil_append, List.append_nil, List.drop_zero, Nat.mul_one, Nat.one_mul, Nat.zero_add] <;> rfl))) | ((with_reducible first | apply SC.condB | apply SC.region | apply SO.run | apply DO.run); (focus (simp (disch := omega) only [go_sem, ↓reduceIte, zn1, zn2, zn3, zn4, zn5, zn6, reduceCtorEq, zn7, zi1, zi2, if_pos, if_neg, q2, q3, x0, x1, g3, gl8, gw, gl, gt, List.getElem?_drop, List.cons_append, List.nil_append, List.append_nil, List.drop_zero, Nat.mul_one, Nat.one_mul, Nat.zero_add] <;> rfl)); (first | refine pickT ?_ | refine pickF ?_ | fail_if_success with_reducible refine pickA ?_)) | ((with_reducible refine SC.draw Tab.mixed ?_ ?_); (focus (first | rfl | simp (disch := omega) only [go_sem, ↓reduceIte, zn1, zn2, zn3, zn4, zn5, zn6, reduceCtorEq, zn7, zi1, zi2, if_pos, if_neg, q2, q3, x0, x1, g3, gl8, gw, gl, gt, List.getElem?_drop, List.cons_append, List.nil_append, List.append_nil, List.drop_zero, Nat.mul_one, Nat.one_mul, Nat.zero_add]))) | (with_reducible apply SC.ops)))
            refine hK3 _ ?_
            refine Le.ren 4 6 hB (by omega) (by omega) (by omega) ?_ ?_
            · (repeat' (first | exact trivial | refine mapSl_cons (by simp (disch := omega) only [go_sem, ↓reduceIte, zn1, zn2, zn3, zn4, zn5, zn6, reduceCtorEq, zn7, zi1, zi2, if_pos, if_neg] <;> rfl) ?_ ?_ | exact VMap.junk _ | exact VMap.sc _ | exact VMap.clo rfl | exact VMap.sl rfl (by omega) | exact VMap.cap rfl (by omega) | exact VMap.pt rfl (by omega) | exact VMap.nil_sl _ _ _ | exact VMap.int (by first | rfl | omega | (dsimp only; omega))))
            · (repeat' (first | exact mapHp_nil | refine mapHp_cons (by simp (disch := omega) only [go_sem, ↓reduceIte, zn1, zn2, zn3, zn4, zn5, zn6, reduceCtorEq, zn7, zi1, zi2, if_pos, if_neg] <;> rfl) ?_ ?_ | exact BMap.clo (by first | rfl | assumption | exact wv_clo _ | exact imR_clo _ _ | exact nv_clo _) | refine BMap.list ?_ | exact mapL_nil | refine mapL_cons ?_ ?_ | exact VMap.junk _ | exact VMap.sc _ | exact VMap.clo rfl | exact VMap.sl rfl (by omega) | exact VMap.cap rfl (by omega) | exact VMap.pt rfl (by omega) | exact VMap.nil_sl _ _ _ | exact VMap.int (by first | rfl | omega | (dsimp only; omega))))
          · have e : dgt l (iw + k) = 0 := by unfold dgt; rw [if_neg hj]
            have q3 : decide (((iw : Nat) : Int) + (k : Int) < (l.length : Int)) = false := decide_eq_false (by omega)
            rw [e] at c1 hK3 hcl
            unfold digC at c1 hK3 hcl
            generalize digM 0 = dm at *
            generalize decide ((0 : Int) < 0) = db at *
            (repeat (first | refine DO.nil (by kernel_rfl) ?_ | (with_reducible first | apply oz1 | apply oz2 | apply oz3 | apply oz4 | apply oz5 | apply oz6 | apply oz7 | apply oz8 | apply oz9 | apply ozb | apply ozc | apply oze | apply ozf | apply ozg | apply ozh | apply ozi | apply ozj | apply ozk | refine ozd (by decide) ?_) | ((first | apply SO.call | apply DO.call); (iterate 3 (focus (simp (disch := omega) only [go_sem, ↓reduceIte, zn1, zn2, zn3, zn4, zn5, zn6, reduceCtorEq, zn7, zi1, zi2, if_pos, if_neg, q2, q3, x0, gl8, gl, gt, List.getElem?_drop, List.cons_append, List.nil_append, List.append_nil, List.drop_zero, Nat.mul_one, Nat.one_mul, Nat.zero_add] <;> rfl))); (first | apply SCall.ofX | apply DCall.ofX); (focus (first | assumption)); (focus (simp (disch := omega) only [go_sem, ↓reduceIte, zn1, zn2, zn3, zn4, zn5, zn6, reduceCtorEq, zn7, zi1, zi2, if_pos, if_neg, q2, q3, x0, gl8, gl, gt, List.getElem?_drop, List.cons_append, List.nil_append, List.append_nil, List.drop_zero, Nat.mul_one, Nat.one_mul, Nat.zero_add] <;> rfl))) | ((with_reducible first | apply SC.condB | apply SC.region | apply SO.run | apply DO.run); (focus (simp (disch := omega) only [go_sem, ↓reduceIte, zn1, zn2, zn3, zn4, zn5, zn6, reduceCtorEq, zn7, zi1, zi2, if_pos, if_neg, q2, q3, x0, gl8, gl, gt, List.getElem?_drop, List.cons_append, List.nil_append, List.append_nil, List.drop_zero, Nat.mul_one, Nat.one_mul, Nat.zero_add] <;> rfl)); (first | refine pickT ?_ | refine pickF ?_ | fail_if_success with_reducible refine pickA ?_)) | ((with_reducible refine SC.draw Tab.mixed ?_ ?_); (focus (first | rfl | simp (disch := omega) only [go_sem, ↓reduceIte, zn1, zn2, zn3, zn4, zn5, zn6, reduceCtorEq, zn7, zi1, zi2, if_pos, if_neg, q2, q3, x0, gl8, gl, gt, List.getElem?_drop, List.cons_append, List.nil_append, List.append_nil, List.drop_zero, Nat.mul_one, Nat.one_mul, Nat.zero_add]))) | (with_reducible apply SC.ops)))
            refine hK3 _ ?_
            refine Le.ren 4 6 hB (by omega) (by omega) (by omega) ?_ ?_
            · (repeat' (first | exact trivial | refine mapSl_cons (by simp (disch := omega) only [go_sem, ↓reduceIte, zn1, zn2, zn3, zn4, zn5, zn6, reduceCtorEq, zn7, zi1, zi2, if_pos, if_neg] <;> rfl) ?_ ?_ | exact VMap.junk _ | exact VMap.sc _ | exact VMap.clo rfl | exact VMap.sl rfl (by omega) | exact VMap.cap rfl (by omega) | exact VMap.pt rfl (by omega) | exact VMap.nil_sl _ _ _ | exact VMap.int (by first | rfl | omega | (dsimp only; omega))))
            · (repeat' (first | exact mapHp_nil | refine mapHp_cons (by simp (disch := omega) only [go_sem, ↓reduceIte, zn1, zn2, zn3, zn4, zn5, zn6, reduceCtorEq, zn7, zi1, zi2, if_pos, if_neg] <;> rfl) ?_ ?_ | exact BMap.clo (by first | rfl | assumption | exact wv_clo _ | exact imR_clo _ _ | exact nv_clo _) | refine BMap.list ?_ | exact mapL_nil | refine mapL_cons ?_ ?_ | exact VMap.junk _ | exact VMap.sc _ | exact VMap.clo rfl | exact VMap.sl rfl (by omega) | exact VMap.cap rfl (by omega) | exact VMap.pt rfl (by omega) | exact VMap.nil_sl _ _ _ | exact VMap.int (by first | rfl | omega | (dsimp only; omega))))
        · have q2 : decide ((k : Int) < (w : Int)) = false := decide_eq_false (by omega)
          have hkw : k = w := by omega
          subst hkw
          have er : (rowD l k i).take k = rowD l k i := List.take_of_length_le (by rw [rowD_len]; exact Nat.le_refl _)
          rw [er] at gl gt gc ⊢
          clear hK'
          generalize vecC (rowD l k i) = C0 at *
          (repeat (first | refine DO.nil (by kernel_rfl) ?_ | (with_reducible first | apply oz1 | apply oz2 | apply oz3 | apply oz4 | apply oz5 | apply oz6 | apply oz7 | apply oz8 | apply oz9 | apply ozb | apply ozc | apply oze | apply ozf | apply ozg | apply ozh | apply ozi | apply ozj | apply ozk | refine ozd (by decide) ?_) | ((first | apply SO.call | apply DO.call); (iterate 3 (focus (simp (disch := omega) only [go_sem, ↓reduceIte, zn1, zn2, zn3, zn4, zn5, zn6, reduceCtorEq, zn7, zi1, zi2, if_pos, if_neg, q2, gM2, gM3, gM4, List.cons_append, List.nil_append, List.append_nil, List.drop_zero, Nat.mul_one, Nat.one_mul, Nat.zero_add] <;> rfl))); (first | apply SCall.ofX | apply DCall.ofX); (focus (first | assumption)); (focus (simp (disch := omega) only [go_sem, ↓reduceIte, zn1, zn2, zn3, zn4, zn5, zn6, reduceCtorEq, zn7, zi1, zi2, if_pos, if_neg, q2, gM2, gM3, gM4, List.cons_append, List.nil_append, List.append_nil, List.drop_zero, Nat.mul_one, Nat.one_mul, Nat.zero_add] <;> rfl))) | ((with_reducible first | apply SC.condB | apply SC.region | apply SO.run | apply DO.run); (focus (simp (disch := omega) only [go_sem, ↓reduceIte, zn1, zn2, zn3, zn4, zn5, zn6, reduceCtorEq, zn7, zi1, zi2, if_pos, if_neg, q2, gM2, gM3, gM4, List.cons_append, List.nil_append, List.append_nil, List.drop_zero, Nat.mul_one, Nat.one_mul, Nat.zero_add] <;> rfl)); (first | refine pickT ?_ | refine pickF ?_ | fail_if_success with_reducible refine pickA ?_)) | ((with_reducible refine SC.draw Tab.mixed ?_ ?_); (focus (first | rfl | simp (disch := omega) only [go_sem, ↓reduceIte, zn1, zn2, zn3, zn4, zn5, zn6, reduceCtorEq, zn7, zi1, zi2, if_pos, if_neg, q2, gM2, gM3, gM4, List.cons_append, List.nil_append, List.append_nil, List.drop_zero, Nat.mul_one, Nat.one_mul, Nat.zero_add]))) | (with_reducible apply SC.ops)))
          refine hK2 _ ?_
          refine appRow (pre := [.sc (.int .i64 h), .sc (.int .i64 k)]) (y := .im C0 k) (ids := [4]) 2 3 6 hB (by simp (disch := omega) only [go_sem, ↓reduceIte, zn1, zn2, zn3, zn4, zn5, zn6, reduceCtorEq, zn7, zi1, zi2, if_pos, if_neg] <;> rfl) (by simp (disch := omega) only [go_sem, ↓reduceIte, zn1, zn2, zn3, zn4, zn5, zn6, reduceCtorEq, zn7, zi1, zi2, if_pos, if_neg] <;> rfl) (by simp (disch := omega) only [go_sem, ↓reduceIte, zn1, zn2, zn3, zn4, zn5, zn6, reduceCtorEq, zn7, zi1, zi2, if_pos, if_neg, gl, gt, gc, List.drop_zero, Nat.mul_one] <;> rfl) rfl gM rfl (by omega) (by omega) (by simp) (by simp) ?_ (Nat.zero_le _) ?_
          · exact ⟨⟨by omega, by omega, by omega, by simp, by simp (disch := omega) only [go_sem, ↓reduceIte, zn1, zn2, zn3, zn4, zn5, zn6, reduceCtorEq, zn7, zi1, zi2, if_pos, if_neg] <;> rfl, rfl⟩, ⟨by omega, by omega, by omega, by simp, by simp (disch := omega) only [go_sem, ↓reduceIte, zn1, zn2, zn3, zn4, zn5, zn6, reduceCtorEq, zn7, zi1, zi2, if_pos, if_neg] <;> rfl, rfl⟩, trivial⟩
          · (repeat' (first | exact trivial | refine mapSl_cons (by simp (disch := omega) only [go_sem, ↓reduceIte, zn1, zn2, zn3, zn4, zn5, zn6, reduceCtorEq, zn7, zi1, zi2, if_pos, if_neg] <;> rfl) ?_ ?_ | exact VMap.junk _ | exact VMap.sc _ | exact VMap.clo rfl | exact VMap.sl rfl (by omega) | exact VMap.cap rfl (by omega) | exact VMap.pt rfl (by omega) | exact VMap.nil_sl _ _ _ | exact VMap.int (by first | rfl | omega | (dsimp only; omega))))
    · have q1 : decide ((i : Int) < (h : Int)) = false := decide_eq_false (by omega)
      have hih : i = h := by omega
      subst hih
      rw [List.take_of_length_le (by rw [matD_len]; exact Nat.le_refl _)]
      have gl := vsC_len w (matD l i w)
      rw [matD_len] at gl
      have gc := vsC_clo w (matD l i w)
      have gt : (vsC w (matD l i w)).take i = vsC w (matD l i w) := List.take_of_length_le (by omega)
      clear hK
      generalize vsC w (matD l i w) = M0 at *
      (repeat (first | refine DO.nil (by kernel_rfl) ?_ | (with_reducible first | apply oz1 | apply oz2 | apply oz3 | apply oz4 | apply oz5 | apply oz6 | apply oz7 | apply oz8 | apply oz9 | apply ozb | apply ozc | apply oze | apply ozf | apply ozg | apply ozh | apply ozi | apply ozj | apply ozk | refine ozd (by decide) ?_) | ((first | apply SO.call | apply DO.call); (iterate 3 (focus (simp (disch := omega) only [go_sem, ↓reduceIte, zn1, zn2, zn3, zn4, zn5, zn6, reduceCtorEq, zn7, zi1, zi2, if_pos, if_neg, q1] <;> rfl))); (first | apply SCall.ofX | apply DCall.ofX); (focus (first | assumption)); (focus (simp (disch := omega) only [go_sem, ↓reduceIte, zn1, zn2, zn3, zn4, zn5, zn6, reduceCtorEq, zn7, zi1, zi2, if_pos, if_neg, q1] <;> rfl))) | ((with_reducible first | apply SC.condB | apply SC.region | apply SO.run | apply DO.run); (focus (simp (disch := omega) only [go_sem, ↓reduceIte, zn1, zn2, zn3, zn4, zn5, zn6, reduceCtorEq, zn7, zi1, zi2, if_pos, if_neg, q1] <;> rfl)); (first | refine pickT ?_ | refine pickF ?_ | fail_if_success with_reducible refine pickA ?_)) | ((with_reducible refine SC.draw Tab.mixed ?_ ?_); (focus (first | rfl | simp (disch := omega) only [go_sem, ↓reduceIte, zn1, zn2, zn3, zn4, zn5, zn6, reduceCtorEq, zn7, zi1, zi2, if_pos, if_neg, q1]))) | (with_reducible apply SC.ops)))
      exact retQ_ret Tryd.results26 (by simp (disch := omega) only [go_sem, ↓reduceIte, zn1, zn2, zn3, zn4, zn5, zn6, reduceCtorEq, zn7, zi1, zi2, if_pos, if_neg, gc, gt, gl, List.drop_zero, Nat.mul_one] <;> rfl) (by simp (disch := omega) only [go_sem, ↓reduceIte, zn1, zn2, zn3, zn4, zn5, zn6, reduceCtorEq, zn7, zi1, zi2, if_pos, if_neg, gc, gt, gl, List.drop_zero, Nat.mul_one] <;> rfl) rfl
theorem rsC_take {D : List (List Int)} {i : Nat} (h : i < D.length) : rsC ((D.take i).map rowT) ++ [.im (tmsC (rowT (D.getD i []))) (rowT (D.getD i [])).length] = rsC ((D.take (i + 1)).map rowT) := by
  rw [List.take_add_one, getD_some (d := []) h, List.map_append]
  unfold rsC; rw [List.map_append]; rfl
theorem vsC_get {w : Nat} {D : List (List Int)} {i : Nat} (h : i < D.length) : (vsC w D)[i]? = some (.im (vecC (D.getD i [])) w) := by
  unfold vsC; rw [List.getElem?_map, getD_some (d := []) h]; rfl
theorem rsC_one (L : List (List Tm)) : (rsC L).all V.one = true := by simp [rsC, V.one]
set_option maxHeartbeats 4000000 in
set_option maxRecDepth 8000 in
theorem from_s {D : List (List Int)} {h w : Nat} (hD : D.length = h) (hr : ∀ r ∈ D, r.length = w) (hh : h ≤ 100) (hw : w ≤ 100) : Spec Tryd.prog 25 [.ag [.sc (.int .i64 h), .sc (.int .i64 w), .im (vsC w D) h]] (.ag [.sc (.int .i64 h), .sc (.int .i64 w), .im (rsC (D.map rowT)) h]) := by
  refine Spec.run Tryd.func25 rfl Tryd.ntmps25 (by simp) (by simp (disch := omega) only [go_sem, ↓reduceIte, zn1, zn2, zn3, zn4, zn5, zn6, reduceCtorEq, zn7, zi1, zi2, if_pos, if_neg]; rfl) fun B hB => ?_
  (repeat (first | refine DO.nil (by kernel_rfl) ?_ | (with_reducible first | apply oz1 | apply oz2 | apply oz3 | apply oz4 | apply oz5 | apply oz6 | apply oz7 | apply oz8 | apply oz9 | apply ozb | apply ozc | apply oze | apply ozf | apply ozg | apply ozh | apply ozi | apply ozj | apply ozk | refine ozd (by decide) ?_) | ((first | apply SO.call | apply DO.call); (iterate 3 (focus (simp (disch := omega) only [go_sem, ↓reduceIte, zn1, zn2, zn3, zn4, zn5, zn6, reduceCtorEq, zn7, zi1, zi2, if_pos, if_neg] <;> rfl))); (first | apply SCall.ofX | apply DCall.ofX); (focus (first | assumption)); (focus (simp (disch := omega) only [go_sem, ↓reduceIte, zn1, zn2, zn3, zn4, zn5, zn6, reduceCtorEq, zn7, zi1, zi2, if_pos, if_neg] <;> rfl))) | ((with_reducible first | apply SC.condB | apply SC.region | apply SO.run | apply DO.run); (focus (simp (disch := omega) only [go_sem, ↓reduceIte, zn1, zn2, zn3, zn4, zn5, zn6, reduceCtorEq, zn7, zi1, zi2, if_pos, if_neg] <;> rfl)); (first | refine pickT ?_ | refine pickF ?_ | fail_if_success with_reducible refine pickA ?_)) | ((with_reducible refine SC.draw Tab.mixed ?_ ?_); (focus (first | rfl | simp (disch := omega) only [go_sem, ↓reduceIte, zn1, zn2, zn3, zn4, zn5, zn6, reduceCtorEq, zn7, zi1, zi2, if_pos, if_neg]))) | (with_reducible apply SC.ops)))
  refine SC.loop (fun i : Nat => ⟨[(1, .pt 0 0), (2, .pt 1 0), (3, .pt 2 0), (4, .sc (.int .i64 i))], [(2, ⟨35, [.sc (.int .i64 h), .sc (.int .i64 w), .sl 3 0 i 1 none], false⟩), (3, ⟨38, rsC ((D.take i).map rowT), false⟩), (1, ⟨35, [.sc (.int .i64 0), .sc (.int .i64 0), .sc (.slice none 0 0)], false⟩), (0, ⟨68, [.sc (.int .i64 h), .sc (.int .i64 w), .im (vsC w D) h], false⟩)], 4, 28⟩)
    (fun i => i ≤ h) (fun i => h - i) 0 ?_ ?_ ?_
  · have e0 : rsC ((D.take 0).map rowT) = [] := rfl
    simp only [e0]
    refine nilRow (pre := [.sc (.int .i64 h), .sc (.int .i64 w)]) 2 3 hB (by simp (disch := omega) only [go_sem, ↓reduceIte, zn1, zn2, zn3, zn4, zn5, zn6, reduceCtorEq, zn7, zi1, zi2, if_pos, if_neg] <;> rfl) rfl (by omega) ?_ (Nat.zero_le _) ?_
    · exact ⟨⟨by omega, by omega, by omega, by simp, by simp (disch := omega) only [go_sem, ↓reduceIte, zn1, zn2, zn3, zn4, zn5, zn6, reduceCtorEq, zn7, zi1, zi2, if_pos, if_neg] <;> rfl, rfl⟩, ⟨by omega, by omega, by omega, by simp, by simp (disch := omega) only [go_sem, ↓reduceIte, zn1, zn2, zn3, zn4, zn5, zn6, reduceCtorEq, zn7, zi1, zi2, if_pos, if_neg] <;> rfl, rfl⟩, trivial⟩
    · (repeat' (first | exact trivial | refine mapSl_cons (by simp (disch := omega) only [go_sem, ↓reduceIte, zn1, zn2, zn3, zn4, zn5, zn6, reduceCtorEq, zn7, zi1, zi2, if_pos, if_neg] <;> rfl) ?_ ?_ | exact VMap.junk _ | exact VMap.sc _ | exact VMap.clo rfl | exact VMap.sl rfl (by omega) | exact VMap.cap rfl (by omega) | exact VMap.pt rfl (by omega) | exact VMap.nil_sl _ _ _ | exact VMap.int (by first | rfl | omega | (dsimp only; omega))))
  · exact Nat.zero_le _
  · intro i hi K hK
    have gM := rsC_clo ((D.take i).map rowT)
    have gM2 := rsC_one ((D.take i).map rowT)
    have gM3 := rsC_len ((D.take i).map rowT)
    rw [List.length_map, List.length_take, Nat.min_eq_left (by omega)] at gM3
    have gM4 : (rsC ((D.take i).map rowT)).take i = rsC ((D.take i).map rowT) := List.take_of_length_le (by omega)
    by_cases hc : i < h
    · have q1 : decide ((i : Int) < (h : Int)) = true := decide_eq_true (by omega)
      have hK2 : ∀ s' : SS, _ → K s' := fun s' h => hK s' (i + 1) h (by omega) (by omega)
      rw [← rsC_take (by omega)] at hK2
      clear hK
      have g1 := vsC_get (w := w) (D := D) (i := i) (by omega)
      have g2 := vsC_len w D
      have hri := hr _ (getDm (d := []) (show i < D.length by omega))
      have c1 := srow_s (r := D.getD i []) (by omega)
      rw [hri] at c1
      generalize rsC ((D.take i).map rowT) = M0 at *
      generalize D.getD i [] = r at *
      (repeat (first | refine DO.nil (by kernel_rfl) ?_ | (with_reducible first | apply oz1 | apply oz2 | apply oz3 | apply oz4 | apply oz5 | apply oz6 | apply oz7 | apply oz8 | apply oz9 | apply ozb | apply ozc | apply oze | apply ozf | apply ozg | apply ozh | apply ozi | apply ozj | apply ozk | refine ozd (by decide) ?_) | ((first | apply SO.call | apply DO.call); (iterate 3 (focus (simp (disch := omega) only [go_sem, ↓reduceIte, zn1, zn2, zn3, zn4, zn5, zn6, reduceCtorEq, zn7, zi1, zi2, if_pos, if_neg, q1, g1, g2, gM2, gM3, gM4, List.getElem?_drop, List.cons_append, List.nil_append, List.append_nil, List.drop_zero, Nat.mul_one, Nat.one_mul, Nat.zero_add] <;> rfl))); (first | apply SCall.ofX | apply DCall.ofX); (focus (first | assumption)); (focus (simp (disch := omega) only [go_sem, ↓reduceIte, zn1, zn2, zn3, zn4, zn5, zn6, reduceCtorEq, zn7, zi1, zi2, if_pos, if_neg, q1, g1, g2, gM2, gM3, gM4, List.getElem?_drop, List.cons_append, List.nil_append, List.append_nil, List.drop_zero, Nat.mul_one, Nat.one_mul, Nat.zero_add] <;> rfl))) | ((with_reducible first | apply SC.condB | apply SC.region | apply SO.run | apply DO.run); (focus (simp (disch := omega) only [go_sem, ↓reduceIte, zn1, zn2, zn3, zn4, zn5, zn6, reduceCtorEq, zn7, zi1, zi2, if_pos, if_neg, q1, g1, g2, gM2, gM3, gM4, List.getElem?_drop, List.cons_append, List.nil_append, List.append_nil, List.drop_zero, Nat.mul_one, Nat.one_mul, Nat.zero_add] <;> rfl)); (first | refine pickT ?_ | refine pickF ?_ | fail_if_success with_reducible refine pickA ?_)) | ((with_reducible refine SC.draw Tab.mixed ?_ ?_); (focus (first | rfl | simp (disch := omega) only [go_sem, ↓reduceIte, zn1, zn2, zn3, zn4, zn5, zn6, reduceCtorEq, zn7, zi1, zi2, if_pos, if_neg, q1, g1, g2, gM2, gM3, gM4, List.getElem?_drop, List.cons_append, List.nil_append, List.append_nil, List.drop_zero, Nat.mul_one, Nat.one_mul, Nat.zero_add]))) | (with_reducible apply SC.ops)))
      refine hK2 _ ?_
      refine appRow (pre := [.sc (.int .i64 h), .sc (.int .i64 w)]) (y := .im (tmsC (rowT r)) (rowT r).length) (ids := []) 2 3 5 hB (by simp (disch := omega) only [go_sem, ↓reduceIte, zn1, zn2, zn3, zn4, zn5, zn6, reduceCtorEq, zn7, zi1, zi2, if_pos, if_neg] <;> rfl) (by simp (disch := omega) only [go_sem, ↓reduceIte, zn1, zn2, zn3, zn4, zn5, zn6, reduceCtorEq, zn7, zi1, zi2, if_pos, if_neg] <;> rfl) (by simp (disch := omega) only [go_sem, ↓reduceIte, zn1, zn2, zn3, zn4, zn5, zn6, reduceCtorEq, zn7, zi1, zi2, if_pos, if_neg] <;> rfl) rfl gM rfl (by omega) (by omega) (by simp) (by simp) ?_ (Nat.zero_le _) ?_
      · exact ⟨⟨by omega, by omega, by omega, by simp, by simp (disch := omega) only [go_sem, ↓reduceIte, zn1, zn2, zn3, zn4, zn5, zn6, reduceCtorEq, zn7, zi1, zi2, if_pos, if_neg] <;> rfl, rfl⟩, ⟨by omega, by omega, by omega, by simp, by simp (disch := omega) only [go_sem, ↓reduceIte, zn1, zn2, zn3, zn4, zn5, zn6, reduceCtorEq, zn7, zi1, zi2, if_pos, if_neg] <;> rfl, rfl⟩, trivial⟩
      · (repeat' (first | exact trivial | refine mapSl_cons (by simp (disch := omega) only [go_sem, ↓reduceIte, zn1, zn2, zn3, zn4, zn5, zn6, reduceCtorEq, zn7, zi1, zi2, if_pos, if_neg] <;> rfl) ?_ ?_ | exact VMap.junk _ | exact VMap.sc _ | exact VMap.clo rfl | exact VMap.sl rfl (by omega) | exact VMap.cap rfl (by omega) | exact VMap.pt rfl (by omega) | exact VMap.nil_sl _ _ _ | exact VMap.int (by first | rfl | omega | (dsimp only; omega))))
    · have q1 : decide ((i : Int) < (h : Int)) = false := decide_eq_false (by omega)
      have hih : i = h := by omega
      subst hih
      have er : D.take i = D := List.take_of_length_le (by omega)
      rw [er] at gM gM2 gM3 gM4 ⊢
      clear hK
      generalize rsC (D.map rowT) = M0 at *
      (repeat (first | refine DO.nil (by kernel_rfl) ?_ | (with_reducible first | apply oz1 | apply oz2 | apply oz3 | apply oz4 | apply oz5 | apply oz6 | apply oz7 | apply oz8 | apply oz9 | apply ozb | apply ozc | apply oze | apply ozf | apply ozg | apply ozh | apply ozi | apply ozj | apply ozk | refine ozd (by decide) ?_) | ((first | apply SO.call | apply DO.call); (iterate 3 (focus (simp (disch := omega) only [go_sem, ↓reduceIte, zn1, zn2, zn3, zn4, zn5, zn6, reduceCtorEq, zn7, zi1, zi2, if_pos, if_neg, q1] <;> rfl))); (first | apply SCall.ofX | apply DCall.ofX); (focus (first | assumption)); (focus (simp (disch := omega) only [go_sem, ↓reduceIte, zn1, zn2, zn3, zn4, zn5, zn6, reduceCtorEq, zn7, zi1, zi2, if_pos, if_neg, q1] <;> rfl))) | ((with_reducible first | apply SC.condB | apply SC.region | apply SO.run | apply DO.run); (focus (simp (disch := omega) only [go_sem, ↓reduceIte, zn1, zn2, zn3, zn4, zn5, zn6, reduceCtorEq, zn7, zi1, zi2, if_pos, if_neg, q1] <;> rfl)); (first | refine pickT ?_ | refine pickF ?_ | fail_if_success with_reducible refine pickA ?_)) | ((with_reducible refine SC.draw Tab.mixed ?_ ?_); (focus (first | rfl | simp (disch := omega) only [go_sem, ↓reduceIte, zn1, zn2, zn3, zn4, zn5, zn6, reduceCtorEq, zn7, zi1, zi2, if_pos, if_neg, q1]))) | (with_reducible apply SC.ops)))
      exact retQ_ret Tryd.results25 (by simp (disch := omega) only [go_sem, ↓reduceIte, zn1, zn2, zn3, zn4, zn5, zn6, reduceCtorEq, zn7, zi1, zi2, if_pos, if_neg, gM, gM4, gM3, List.drop_zero, Nat.mul_one] <;> rfl) (by simp (disch := omega) only [go_sem, ↓reduceIte, zn1, zn2, zn3, zn4, zn5, zn6, reduceCtorEq, zn7, zi1, zi2, if_pos, if_neg, gM, gM4, gM3, List.drop_zero, Nat.mul_one] <;> rfl) rfl
def spL (l : List Int) (h w : Nat) : List (List Tm) := (matD l h w).map rowT
theorem spL_len (l : List Int) (h w : Nat) : (spL l h w).length = h := by unfold spL; rw [List.length_map, matD_len]
theorem spL_ok (l : List Int) {h w : Nat} (hh : h ≤ 100) (hw : w ≤ 100) : RowsOk2 (spL l h w) := by
  refine ⟨fun r hr => ?_, by rw [spL_len]; omega⟩
  obtain ⟨d, hd, rfl⟩ := List.mem_map.1 hr
  obtain ⟨i, hi, rfl⟩ := List.mem_map.1 hd
  refine ⟨rowTk_ok _ (by rw [rowD_len]; omega), ?_⟩
  have := rowTk_len (rowD l w i) (rowD l w i).length
  rw [rowD_len] at this
  unfold rowT; rw [rowD_len]; omega
def spV (h w : Nat) (L : List (List Tm)) : V := .ag [.sc (.int .i64 h), .sc (.int .i64 w), .im (rsC L) h]
set_option maxHeartbeats 4000000 in
set_option maxRecDepth 8000 in
theorem made_s {l : List Int} {a b c : Nat} (ha : a < 256) (hb : b < 256) (hc : c < 256) (hl : l.length ≤ 9223372036854775807) (h8 : ∀ x ∈ l, -128 ≤ x ∧ x ≤ 127) :
    Spec Tryd.prog 9 [.ag [.sc (.int .u8 a), .sc (.int .u8 b), .im (i8v l) l.length, .sc (.int .u8 c)]] (.tu [spV (a % 10) (b % 5) (spL l (a % 10) (b % 5)), .sc (.int .i64 (if a % 10 = 0 then 0 else ((c % (a % 10) : Nat) : Int)))]) := by
  have c1 := ssized_s (l := l) (a := a) (b := b) (h := a % 10) (w := b % 5) (by omega) (by omega) hl h8
  have c2 := from_s (D := matD l (a % 10) (b % 5)) (h := a % 10) (w := b % 5) (matD_len _ _ _) (fun r hr => by
    obtain ⟨i, _, rfl⟩ := List.mem_map.1 hr
    exact rowD_len _ _ _) (by omega) (by omega)
  have x1 : ((a : Int).tmod 10) = ((a % 10 : Nat) : Int) := rfl
  have x2 : ((b : Int).tmod 5) = ((b % 5 : Nat) : Int) := rfl
  have gc := rsC_clo (spL l (a % 10) (b % 5))
  unfold spV
  have e9 : (matD l (a % 10) (b % 5)).map rowT = spL l (a % 10) (b % 5) := rfl
  rw [e9] at c2
  have w1 : IntKind.i64.wrap (a : Int) = a := by rw [IntKind.wrap_i64]; omega
  have w2 : IntKind.i64.wrap (b : Int) = b := by rw [IntKind.wrap_i64]; omega
  have w3 : IntKind.i64.wrap (c : Int) = c := by rw [IntKind.wrap_i64]; omega
  by_cases hz : a % 10 = 0
  · rw [if_pos hz]
    have q1 : (((a % 10 : Nat) : Int) == 0) = true := by rw [beq_iff_eq]; omega
    generalize vsC (b % 5) (matD l (a % 10) (b % 5)) = M0 at *
    generalize rsC (spL l (a % 10) (b % 5)) = RS at *
    refine Spec.run Tryd.func9 rfl Tryd.ntmps9 (by simp) (by simp (disch := omega) only [go_sem, ↓reduceIte, zn1, zn2, zn3, zn4, zn5, zn6, reduceCtorEq, zn7, zi1, zi2, if_pos, if_neg]; rfl) fun B hB => ?_
    (repeat (first | refine DO.nil (by kernel_rfl) ?_ | (with_reducible first | apply oz1 | apply oz2 | apply oz3 | apply oz4 | apply oz5 | apply oz6 | apply oz7 | apply oz8 | apply oz9 | apply ozb | apply ozc | apply oze | apply ozf | apply ozg | apply ozh | apply ozi | apply ozj | apply ozk | refine ozd (by decide) ?_) | ((first | apply SO.call | apply DO.call); (iterate 3 (focus (simp (disch := omega) only [go_sem, ↓reduceIte, zn1, zn2, zn3, zn4, zn5, zn6, reduceCtorEq, zn7, zi1, zi2, if_pos, if_neg, x1, x2, w1, w2, w3, q1] <;> rfl))); (first | apply SCall.ofX | apply DCall.ofX); (focus (first | assumption)); (focus (simp (disch := omega) only [go_sem, ↓reduceIte, zn1, zn2, zn3, zn4, zn5, zn6, reduceCtorEq, zn7, zi1, zi2, if_pos, if_neg, x1, x2, w1, w2, w3, q1] <;> rfl))) | ((with_reducible first | apply SC.condB | apply SC.region | apply SO.run | apply DO.run); (focus (simp (disch := omega) only [go_sem, ↓reduceIte, zn1, zn2, zn3, zn4, zn5, zn6, reduceCtorEq, zn7, zi1, zi2, if_pos, if_neg, x1, x2, w1, w2, w3, q1] <;> rfl)); (first | refine pickT ?_ | refine pickF ?_ | fail_if_success with_reducible refine pickA ?_)) | ((with_reducible refine SC.draw Tab.mixed ?_ ?_); (focus (first | rfl | simp (disch := omega) only [go_sem, ↓reduceIte, zn1, zn2, zn3, zn4, zn5, zn6, reduceCtorEq, zn7, zi1, zi2, if_pos, if_neg, x1, x2, w1, w2, w3, q1]))) | (with_reducible apply SC.ops)))
    exact retQ_ret Tryd.results9 (by simp (disch := omega) only [go_sem, ↓reduceIte, zn1, zn2, zn3, zn4, zn5, zn6, reduceCtorEq, zn7, zi1, zi2, if_pos, if_neg] <;> rfl) (by simp (disch := omega) only [go_sem, ↓reduceIte, zn1, zn2, zn3, zn4, zn5, zn6, reduceCtorEq, zn7, zi1, zi2, if_pos, if_neg] <;> rfl) rfl
  · rw [if_neg hz]
    have q1 : (((a % 10 : Nat) : Int) == 0) = false := by rw [beq_eq_false_iff_ne]; omega
    have x3 : ((c : Int).tmod ((a % 10 : Nat) : Int)) = ((c % (a % 10) : Nat) : Int) := rfl
    have x4 : (((a % 10 : Nat) : Int) = 0) = False := eq_false (by omega)
    generalize vsC (b % 5) (matD l (a % 10) (b % 5)) = M0 at *
    generalize rsC (spL l (a % 10) (b % 5)) = RS at *
    refine Spec.run Tryd.func9 rfl Tryd.ntmps9 (by simp) (by simp (disch := omega) only [go_sem, ↓reduceIte, zn1, zn2, zn3, zn4, zn5, zn6, reduceCtorEq, zn7, zi1, zi2, if_pos, if_neg]; rfl) fun B hB => ?_
    (repeat (first | refine DO.nil (by kernel_rfl) ?_ | (with_reducible first | apply oz1 | apply oz2 | apply oz3 | apply oz4 | apply oz5 | apply oz6 | apply oz7 | apply oz8 | apply oz9 | apply ozb | apply ozc | apply oze | apply ozf | apply ozg | apply ozh | apply ozi | apply ozj | apply ozk | refine ozd (by decide) ?_) | ((first | apply SO.call | apply DO.call); (iterate 3 (focus (simp (disch := omega) only [go_sem, ↓reduceIte, zn1, zn2, zn3, zn4, zn5, zn6, reduceCtorEq, zn7, zi1, zi2, if_pos, if_neg, x1, x2, x3, x4, w1, w2, w3, q1] <;> rfl))); (first | apply SCall.ofX | apply DCall.ofX); (focus (first | assumption)); (focus (simp (disch := omega) only [go_sem, ↓reduceIte, zn1, zn2, zn3, zn4, zn5, zn6, reduceCtorEq, zn7, zi1, zi2, if_pos, if_neg, x1, x2, x3, x4, w1, w2, w3, q1] <;> rfl))) | ((with_reducible first | apply SC.condB | apply SC.region | apply SO.run | apply DO.run); (focus (simp (disch := omega) only [go_sem, ↓reduceIte, zn1, zn2, zn3, zn4, zn5, zn6, reduceCtorEq, zn7, zi1, zi2, if_pos, if_neg, x1, x2, x3, x4, w1, w2, w3, q1] <;> rfl)); (first | refine pickT ?_ | refine pickF ?_ | fail_if_success with_reducible refine pickA ?_)) | ((with_reducible refine SC.draw Tab.mixed ?_ ?_); (focus (first | rfl | simp (disch := omega) only [go_sem, ↓reduceIte, zn1, zn2, zn3, zn4, zn5, zn6, reduceCtorEq, zn7, zi1, zi2, if_pos, if_neg, x1, x2, x3, x4, w1, w2, w3, q1]))) | (with_reducible apply SC.ops)))
    exact retQ_ret Tryd.results9 (by simp (disch := omega) only [go_sem, ↓reduceIte, zn1, zn2, zn3, zn4, zn5, zn6, reduceCtorEq, zn7, zi1, zi2, if_pos, if_neg] <;> rfl) (by simp (disch := omega) only [go_sem, ↓reduceIte, zn1, zn2, zn3, zn4, zn5, zn6, reduceCtorEq, zn7, zi1, zi2, if_pos, if_neg] <;> rfl) rfl
end Go.Proofs.YtpbnhioelmgaiaaDoor
namespace Go.Proofs.YtpbnhioelmgaiaaDoor
open Go.RowKit
def visN (n i from_ : Nat) : List (Nat × Nat × Bool) :=
  if h : 1 < n then
    (if i < halfN n then visN (halfN n) i from_ ++ [(from_ + halfN n, from_ + n, false)]
     else visN (n - halfN n) (i - halfN n) (from_ + halfN n) ++ [(from_, from_ + halfN n, true)])
  else []
termination_by n
decreasing_by
  · exact (halfN_lt h).2
  · have := halfN_lt h; omega
theorem visN_one {n i f : Nat} (h : ¬ 1 < n) : visN n i f = [] := by rw [visN, dif_neg h]
theorem visN_l {n i f : Nat} (h : 1 < n) (hi : i < halfN n) : visN n i f = visN (halfN n) i f ++ [(f + halfN n, f + n, false)] := by rw [visN, dif_pos h, if_pos hi]
theorem visN_r {n i f : Nat} (h : 1 < n) (hi : ¬ i < halfN n) : visN n i f = visN (n - halfN n) (i - halfN n) (f + halfN n) ++ [(f, f + halfN n, true)] := by rw [visN, dif_pos h, if_neg hi]
set_option maxHeartbeats 4000000 in
set_option maxRecDepth 8000 in
theorem walk_q {g : Nat} {cap : List V} (hgo : isGo Tryd.prog g = true) (total : List (Nat × Nat × Bool)) (J : List (Nat × Nat × Bool) → List (Nat × Blk) → Nat → Prop)
    (hstep : ∀ done f t b tl hp nx, done ++ (f, t, b) :: tl = total → J done hp nx → InlQ Tryd.prog g ([.sc (.int .i64 (f : Nat)), .sc (.int .i64 (t : Nat)), .sc (.bool b)] ++ cap) hp nx (fun _ hp' nx' => J (done ++ [(f, t, b)]) hp' nx')) :
    ∀ (N n i f : Nat) (done tl : List (Nat × Nat × Bool)) (hp : List (Nat × Blk)) (nx : Nat), n ≤ N → i < n → f + n ≤ 4294967296 → done ++ visN n i f ++ tl = total → J done hp nx →
      InlQ Tryd.prog 29 [.sc (.int .i64 (f : Nat)), .sc (.int .i64 ((f + n : Nat) : Int)), .sc (.int .i64 ((f + i : Nat) : Int)), .fn (.func g) [] cap] hp nx (fun _ hp' nx' => J (done ++ visN n i f) hp' nx') := by
  intro N
  induction N with
  | zero => intro n i f done tl hp nx h1 h2; omega
  | succ N ih =>
    intro n i f done tl hp nx hN hi hf ht hJ
    refine InlQ.run Tryd.func29 rfl Tryd.ntmps29 (by simp) (by simp (disch := omega) only [go_sem, ↓reduceIte, zn1, zn2, zn3, zn4, zn5, zn6, reduceCtorEq, zn7, zi1, zi2, if_pos, if_neg]; rfl) fun B hB => ?_
    by_cases h1 : 1 < n
    · have q1 : decide ((n : Int) < 2) = false := decide_eq_false (by omega)
      obtain ⟨hh1, hh2⟩ := halfN_lt h1
      have c0 := half_s (n := n) (by omega) (by omega)
      have x1 : ((f + n : Nat) : Int) - (f : Int) = (n : Int) := by omega
      by_cases hih : i < halfN n
      · rw [visN_l h1 hih] at ht ⊢
        rw [← List.append_assoc] at ht ⊢
        have q2 : decide (((f + i : Nat) : Int) < ((f + halfN n : Nat) : Int)) = true := decide_eq_true (by omega)
        have x2 : (f : Int) + ((halfN n : Nat) : Int) = ((f + halfN n : Nat) : Int) := by omega
        have hI := ih (halfN n) i f done ((f + halfN n, f + n, false) :: tl) hp nx (by omega) hih (by omega) (by rw [← ht]; simp) hJ
        generalize halfN n = k at *
        (repeat (first | refine DO.nil (by kernel_rfl) ?_ | (with_reducible first | apply oz1 | apply oz2 | apply oz3 | apply oz4 | apply oz5 | apply oz6 | apply oz7 | apply oz8 | apply oz9 | apply ozb | apply ozc | apply oze | apply ozf | apply ozg | apply ozh | apply ozi | apply ozj | apply ozk | refine ozd (by decide) ?_) | ((first | apply SO.call | apply DO.call); (iterate 3 (focus (simp (disch := omega) only [go_sem, ↓reduceIte, zn1, zn2, zn3, zn4, zn5, zn6, reduceCtorEq, zn7, zi1, zi2, if_pos, if_neg, q1, x1, x2, q2] <;> rfl))); (first | apply SCall.ofX | apply DCall.ofX); (focus (first | assumption)); (focus (simp (disch := omega) only [go_sem, ↓reduceIte, zn1, zn2, zn3, zn4, zn5, zn6, reduceCtorEq, zn7, zi1, zi2, if_pos, if_neg, q1, x1, x2, q2] <;> rfl))) | ((with_reducible first | apply SC.condB | apply SC.region | apply SO.run | apply DO.run); (focus (simp (disch := omega) only [go_sem, ↓reduceIte, zn1, zn2, zn3, zn4, zn5, zn6, reduceCtorEq, zn7, zi1, zi2, if_pos, if_neg, q1, x1, x2, q2] <;> rfl)); (first | refine pickT ?_ | refine pickF ?_ | fail_if_success with_reducible refine pickA ?_)) | ((with_reducible refine SC.draw Tab.mixed ?_ ?_); (focus (first | rfl | simp (disch := omega) only [go_sem, ↓reduceIte, zn1, zn2, zn3, zn4, zn5, zn6, reduceCtorEq, zn7, zi1, zi2, if_pos, if_neg, q1, x1, x2, q2]))) | (with_reducible apply SC.ops)))
        refine SO.inlQ (by simp (disch := omega) only [go_sem, ↓reduceIte, zn1, zn2, zn3, zn4, zn5, zn6, reduceCtorEq, zn7, zi1, zi2, if_pos, if_neg] <;> rfl) Tab.go29 (by simp (disch := omega) only [go_sem, ↓reduceIte, zn1, zn2, zn3, zn4, zn5, zn6, reduceCtorEq, zn7, zi1, zi2, if_pos, if_neg, x2] <;> rfl) (by simp (disch := omega) only [go_sem, ↓reduceIte, zn1, zn2, zn3, zn4, zn5, zn6, reduceCtorEq, zn7, zi1, zi2, if_pos, if_neg] <;> rfl) (SInlQ.all hI ?_)
        intro y hp1 nx1 hJ1
        have hV := hstep (done ++ visN k i f) (f + k) (f + n) false tl hp1 nx1 (by rw [← ht]; simp) hJ1
        (repeat (first | refine DO.nil (by kernel_rfl) ?_ | (with_reducible first | apply oz1 | apply oz2 | apply oz3 | apply oz4 | apply oz5 | apply oz6 | apply oz7 | apply oz8 | apply oz9 | apply ozb | apply ozc | apply oze | apply ozf | apply ozg | apply ozh | apply ozi | apply ozj | apply ozk | refine ozd (by decide) ?_) | ((first | apply SO.call | apply DO.call); (iterate 3 (focus (simp (disch := omega) only [go_sem, ↓reduceIte, zn1, zn2, zn3, zn4, zn5, zn6, reduceCtorEq, zn7, zi1, zi2, if_pos, if_neg, x2] <;> rfl))); (first | apply SCall.ofX | apply DCall.ofX); (focus (first | assumption)); (focus (simp (disch := omega) only [go_sem, ↓reduceIte, zn1, zn2, zn3, zn4, zn5, zn6, reduceCtorEq, zn7, zi1, zi2, if_pos, if_neg, x2] <;> rfl))) | ((with_reducible first | apply SC.condB | apply SC.region | apply SO.run | apply DO.run); (focus (simp (disch := omega) only [go_sem, ↓reduceIte, zn1, zn2, zn3, zn4, zn5, zn6, reduceCtorEq, zn7, zi1, zi2, if_pos, if_neg, x2] <;> rfl)); (first | refine pickT ?_ | refine pickF ?_ | fail_if_success with_reducible refine pickA ?_)) | ((with_reducible refine SC.draw Tab.mixed ?_ ?_); (focus (first | rfl | simp (disch := omega) only [go_sem, ↓reduceIte, zn1, zn2, zn3, zn4, zn5, zn6, reduceCtorEq, zn7, zi1, zi2, if_pos, if_neg, x2]))) | (with_reducible apply SC.ops)))
        refine SO.inlQ (by simp (disch := omega) only [go_sem, ↓reduceIte, zn1, zn2, zn3, zn4, zn5, zn6, reduceCtorEq, zn7, zi1, zi2, if_pos, if_neg] <;> rfl) hgo (by simp (disch := omega) only [go_sem, ↓reduceIte, zn1, zn2, zn3, zn4, zn5, zn6, reduceCtorEq, zn7, zi1, zi2, if_pos, if_neg, List.nil_append] <;> rfl) (by simp (disch := omega) only [go_sem, ↓reduceIte, zn1, zn2, zn3, zn4, zn5, zn6, reduceCtorEq, zn7, zi1, zi2, if_pos, if_neg] <;> rfl) (SInlQ.all hV ?_)
        intro y2 hp2 nx2 hJ2
        (repeat (first | refine DO.nil (by kernel_rfl) ?_ | (with_reducible first | apply oz1 | apply oz2 | apply oz3 | apply oz4 | apply oz5 | apply oz6 | apply oz7 | apply oz8 | apply oz9 | apply ozb | apply ozc | apply oze | apply ozf | apply ozg | apply ozh | apply ozi | apply ozj | apply ozk | refine ozd (by decide) ?_) | ((first | apply SO.call | apply DO.call); (iterate 3 (focus (simp (disch := omega) only [go_sem, ↓reduceIte, zn1, zn2, zn3, zn4, zn5, zn6, reduceCtorEq, zn7, zi1, zi2, if_pos, if_neg] <;> rfl))); (first | apply SCall.ofX | apply DCall.ofX); (focus (first | assumption)); (focus (simp (disch := omega) only [go_sem, ↓reduceIte, zn1, zn2, zn3, zn4, zn5, zn6, reduceCtorEq, zn7, zi1, zi2, if_pos, if_neg] <;> rfl))) | ((with_reducible first | apply SC.condB | apply SC.region | apply SO.run | apply DO.run); (focus (simp (disch := omega) only [go_sem, ↓reduceIte, zn1, zn2, zn3, zn4, zn5, zn6, reduceCtorEq, zn7, zi1, zi2, if_pos, if_neg] <;> rfl)); (first | refine pickT ?_ | refine pickF ?_ | fail_if_success with_reducible refine pickA ?_)) | ((with_reducible refine SC.draw Tab.mixed ?_ ?_); (focus (first | rfl | simp (disch := omega) only [go_sem, ↓reduceIte, zn1, zn2, zn3, zn4, zn5, zn6, reduceCtorEq, zn7, zi1, zi2, if_pos, if_neg]))) | (with_reducible apply SC.ops)))
        exact retIQ_normal _ hp2 nx2 Tryd.results29 (by simp (disch := omega) only [go_sem, ↓reduceIte, zn1, zn2, zn3, zn4, zn5, zn6, reduceCtorEq, zn7, zi1, zi2, if_pos, if_neg] <;> rfl) hJ2 (Le.refl _ _)
      · rw [visN_r h1 hih] at ht ⊢
        rw [← List.append_assoc] at ht ⊢
        have q2 : decide (((f + i : Nat) : Int) < ((f + halfN n : Nat) : Int)) = false := decide_eq_false (by omega)
        have x2 : (f : Int) + ((halfN n : Nat) : Int) = ((f + halfN n : Nat) : Int) := by omega
        have hI := ih (n - halfN n) (i - halfN n) (f + halfN n) done ((f, f + halfN n, true) :: tl) hp nx (by omega) (by omega) (by omega) (by rw [← ht]; simp) hJ
        rw [show f + halfN n + (n - halfN n) = f + n by omega, show f + halfN n + (i - halfN n) = f + i by omega] at hI
        generalize halfN n = k at *
        (repeat (first | refine DO.nil (by kernel_rfl) ?_ | (with_reducible first | apply oz1 | apply oz2 | apply oz3 | apply oz4 | apply oz5 | apply oz6 | apply oz7 | apply oz8 | apply oz9 | apply ozb | apply ozc | apply oze | apply ozf | apply ozg | apply ozh | apply ozi | apply ozj | apply ozk | refine ozd (by decide) ?_) | ((first | apply SO.call | apply DO.call); (iterate 3 (focus (simp (disch := omega) only [go_sem, ↓reduceIte, zn1, zn2, zn3, zn4, zn5, zn6, reduceCtorEq, zn7, zi1, zi2, if_pos, if_neg, q1, x1, x2, q2] <;> rfl))); (first | apply SCall.ofX | apply DCall.ofX); (focus (first | assumption)); (focus (simp (disch := omega) only [go_sem, ↓reduceIte, zn1, zn2, zn3, zn4, zn5, zn6, reduceCtorEq, zn7, zi1, zi2, if_pos, if_neg, q1, x1, x2, q2] <;> rfl))) | ((with_reducible first | apply SC.condB | apply SC.region | apply SO.run | apply DO.run); (focus (simp (disch := omega) only [go_sem, ↓reduceIte, zn1, zn2, zn3, zn4, zn5, zn6, reduceCtorEq, zn7, zi1, zi2, if_pos, if_neg, q1, x1, x2, q2] <;> rfl)); (first | refine pickT ?_ | refine pickF ?_ | fail_if_success with_reducible refine pickA ?_)) | ((with_reducible refine SC.draw Tab.mixed ?_ ?_); (focus (first | rfl | simp (disch := omega) only [go_sem, ↓reduceIte, zn1, zn2, zn3, zn4, zn5, zn6, reduceCtorEq, zn7, zi1, zi2, if_pos, if_neg, q1, x1, x2, q2]))) | (with_reducible apply SC.ops)))
        refine SO.inlQ (by simp (disch := omega) only [go_sem, ↓reduceIte, zn1, zn2, zn3, zn4, zn5, zn6, reduceCtorEq, zn7, zi1, zi2, if_pos, if_neg] <;> rfl) Tab.go29 (by simp (disch := omega) only [go_sem, ↓reduceIte, zn1, zn2, zn3, zn4, zn5, zn6, reduceCtorEq, zn7, zi1, zi2, if_pos, if_neg, x2] <;> rfl) (by simp (disch := omega) only [go_sem, ↓reduceIte, zn1, zn2, zn3, zn4, zn5, zn6, reduceCtorEq, zn7, zi1, zi2, if_pos, if_neg] <;> rfl) (SInlQ.all hI ?_)
        intro y hp1 nx1 hJ1
        have hV := hstep (done ++ visN (n - k) (i - k) (f + k)) f (f + k) true tl hp1 nx1 (by rw [← ht]; simp) hJ1
        (repeat (first | refine DO.nil (by kernel_rfl) ?_ | (with_reducible first | apply oz1 | apply oz2 | apply oz3 | apply oz4 | apply oz5 | apply oz6 | apply oz7 | apply oz8 | apply oz9 | apply ozb | apply ozc | apply oze | apply ozf | apply ozg | apply ozh | apply ozi | apply ozj | apply ozk | refine ozd (by decide) ?_) | ((first | apply SO.call | apply DO.call); (iterate 3 (focus (simp (disch := omega) only [go_sem, ↓reduceIte, zn1, zn2, zn3, zn4, zn5, zn6, reduceCtorEq, zn7, zi1, zi2, if_pos, if_neg, x2] <;> rfl))); (first | apply SCall.ofX | apply DCall.ofX); (focus (first | assumption)); (focus (simp (disch := omega) only [go_sem, ↓reduceIte, zn1, zn2, zn3, zn4, zn5, zn6, reduceCtorEq, zn7, zi1, zi2, if_pos, if_neg, x2] <;> rfl))) | ((with_reducible first | apply SC.condB | apply SC.region | apply SO.run | apply DO.run); (focus (simp (disch := omega) only [go_sem, ↓reduceIte, zn1, zn2, zn3, zn4, zn5, zn6, reduceCtorEq, zn7, zi1, zi2, if_pos, if_neg, x2] <;> rfl)); (first | refine pickT ?_ | refine pickF ?_ | fail_if_success with_reducible refine pickA ?_)) | ((with_reducible refine SC.draw Tab.mixed ?_ ?_); (focus (first | rfl | simp (disch := omega) only [go_sem, ↓reduceIte, zn1, zn2, zn3, zn4, zn5, zn6, reduceCtorEq, zn7, zi1, zi2, if_pos, if_neg, x2]))) | (with_reducible apply SC.ops)))
        refine SO.inlQ (by simp (disch := omega) only [go_sem, ↓reduceIte, zn1, zn2, zn3, zn4, zn5, zn6, reduceCtorEq, zn7, zi1, zi2, if_pos, if_neg] <;> rfl) hgo (by simp (disch := omega) only [go_sem, ↓reduceIte, zn1, zn2, zn3, zn4, zn5, zn6, reduceCtorEq, zn7, zi1, zi2, if_pos, if_neg, List.nil_append] <;> rfl) (by simp (disch := omega) only [go_sem, ↓reduceIte, zn1, zn2, zn3, zn4, zn5, zn6, reduceCtorEq, zn7, zi1, zi2, if_pos, if_neg] <;> rfl) (SInlQ.all hV ?_)
        intro y2 hp2 nx2 hJ2
        (repeat (first | refine DO.nil (by kernel_rfl) ?_ | (with_reducible first | apply oz1 | apply oz2 | apply oz3 | apply oz4 | apply oz5 | apply oz6 | apply oz7 | apply oz8 | apply oz9 | apply ozb | apply ozc | apply oze | apply ozf | apply ozg | apply ozh | apply ozi | apply ozj | apply ozk | refine ozd (by decide) ?_) | ((first | apply SO.call | apply DO.call); (iterate 3 (focus (simp (disch := omega) only [go_sem, ↓reduceIte, zn1, zn2, zn3, zn4, zn5, zn6, reduceCtorEq, zn7, zi1, zi2, if_pos, if_neg] <;> rfl))); (first | apply SCall.ofX | apply DCall.ofX); (focus (first | assumption)); (focus (simp (disch := omega) only [go_sem, ↓reduceIte, zn1, zn2, zn3, zn4, zn5, zn6, reduceCtorEq, zn7, zi1, zi2, if_pos, if_neg] <;> rfl))) | ((with_reducible first | apply SC.condB | apply SC.region | apply SO.run | apply DO.run); (focus (simp (disch := omega) only [go_sem, ↓reduceIte, zn1, zn2, zn3, zn4, zn5, zn6, reduceCtorEq, zn7, zi1, zi2, if_pos, if_neg] <;> rfl)); (first | refine pickT ?_ | refine pickF ?_ | fail_if_success with_reducible refine pickA ?_)) | ((with_reducible refine SC.draw Tab.mixed ?_ ?_); (focus (first | rfl | simp (disch := omega) only [go_sem, ↓reduceIte, zn1, zn2, zn3, zn4, zn5, zn6, reduceCtorEq, zn7, zi1, zi2, if_pos, if_neg]))) | (with_reducible apply SC.ops)))
        exact retIQ_normal _ hp2 nx2 Tryd.results29 (by simp (disch := omega) only [go_sem, ↓reduceIte, zn1, zn2, zn3, zn4, zn5, zn6, reduceCtorEq, zn7, zi1, zi2, if_pos, if_neg] <;> rfl) hJ2 (Le.refl _ _)
    · have q1 : decide ((n : Int) < 2) = true := decide_eq_true (by omega)
      have x1 : ((f + n : Nat) : Int) - (f : Int) = (n : Int) := by omega
      rw [visN_one h1, List.append_nil]
      (repeat (first | refine DO.nil (by kernel_rfl) ?_ | (with_reducible first | apply oz1 | apply oz2 | apply oz3 | apply oz4 | apply oz5 | apply oz6 | apply oz7 | apply oz8 | apply oz9 | apply ozb | apply ozc | apply oze | apply ozf | apply ozg | apply ozh | apply ozi | apply ozj | apply ozk | refine ozd (by decide) ?_) | ((first | apply SO.call | apply DO.call); (iterate 3 (focus (simp (disch := omega) only [go_sem, ↓reduceIte, zn1, zn2, zn3, zn4, zn5, zn6, reduceCtorEq, zn7, zi1, zi2, if_pos, if_neg, q1, x1] <;> rfl))); (first | apply SCall.ofX | apply DCall.ofX); (focus (first | assumption)); (focus (simp (disch := omega) only [go_sem, ↓reduceIte, zn1, zn2, zn3, zn4, zn5, zn6, reduceCtorEq, zn7, zi1, zi2, if_pos, if_neg, q1, x1] <;> rfl))) | ((with_reducible first | apply SC.condB | apply SC.region | apply SO.run | apply DO.run); (focus (simp (disch := omega) only [go_sem, ↓reduceIte, zn1, zn2, zn3, zn4, zn5, zn6, reduceCtorEq, zn7, zi1, zi2, if_pos, if_neg, q1, x1] <;> rfl)); (first | refine pickT ?_ | refine pickF ?_ | fail_if_success with_reducible refine pickA ?_)) | ((with_reducible refine SC.draw Tab.mixed ?_ ?_); (focus (first | rfl | simp (disch := omega) only [go_sem, ↓reduceIte, zn1, zn2, zn3, zn4, zn5, zn6, reduceCtorEq, zn7, zi1, zi2, if_pos, if_neg, q1, x1]))) | (with_reducible apply SC.ops)))
      exact retIQ_ret _ hp nx Tryd.results29 rfl hJ (Le.refl _ _)
end Go.Proofs.YtpbnhioelmgaiaaDoor
