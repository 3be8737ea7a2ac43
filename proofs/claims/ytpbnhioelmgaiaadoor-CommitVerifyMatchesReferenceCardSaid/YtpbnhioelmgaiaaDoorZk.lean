/- Texts joined: Cx. -/
import Derived.Test.YtpbnhioelmgaiaaDoorZj
set_option linter.all false
open Nat renaming reduceEqDiff → zn1, reduceLT → zn2, reduceLeDiff → zn3, reduceAdd → zn4, reduceMul → zn5, reduceSub → zn6, reduceBEq → zn7
open Int renaming reduceToNat → zi1, reducePow → zi2
namespace Go.Proofs.YtpbnhioelmgaiaaDoor
open Go.RowKit
set_option maxHeartbeats 8000000 in
set_option maxRecDepth 8000 in
theorem vrow_s {r : List Tm} {cols : Int} (hn : r.length ≤ 1000) (h0 : 0 ≤ cols) (hm : ∀ t ∈ r, t.mag.length ≤ 1000) : Spec Tryd.prog 43 [.im (tmsC r) r.length, .sc (.int .i64 cols)] (.sc (.bool (okR cols (-1) r))) := by
  generalize hX : okR cols (-1) r = X
  have q0 : decide (cols ≥ 0) = true := decide_eq_true h0
  have q0' : decide (0 ≤ cols) = true := decide_eq_true h0
  refine Spec.run Tryd.func43 rfl Tryd.ntmps43 (by simp) (by simp (disch := omega) only [go_sem, ↓reduceIte, zn1, zn2, zn3, zn4, zn5, zn6, reduceCtorEq, zn7, zi1, zi2, if_pos, if_neg]; rfl) fun B hB => ?_
  (repeat (first | (first | refine DO.nilC (by kernel_rfl) ?_ | refine DO.nil (by kernel_rfl) ?_) | (with_reducible first | apply oz1 | apply oz2 | apply oz3 | apply oz4 | apply oz5 | apply oz6 | apply oz7 | apply oz8 | apply oz9 | apply ozb | apply ozc | apply oze | apply ozf | apply ozg | apply ozh | apply ozi | apply ozj | apply ozk | refine ozd (by decide) ?_) | ((first | apply SO.call | apply DO.call); (iterate 3 (focus (simp (disch := omega) only [go_sem, ↓reduceIte, zn1, zn2, zn3, zn4, zn5, zn6, reduceCtorEq, zn7, zi1, zi2, if_pos, if_neg] <;> rfl))); (first | apply SCall.ofX | apply DCall.ofX); (focus (first | assumption)); (focus (simp (disch := omega) only [go_sem, ↓reduceIte, zn1, zn2, zn3, zn4, zn5, zn6, reduceCtorEq, zn7, zi1, zi2, if_pos, if_neg] <;> rfl))) | ((with_reducible first | apply SC.condB | apply SC.region | apply SO.run | apply DO.run); (focus (simp (disch := omega) only [go_sem, ↓reduceIte, zn1, zn2, zn3, zn4, zn5, zn6, reduceCtorEq, zn7, zi1, zi2, if_pos, if_neg] <;> rfl)); (first | refine pickT ?_ | refine pickF ?_ | fail_if_success with_reducible refine pickA ?_)) | ((with_reducible refine SC.draw Tab.mixed ?_ ?_); (focus (first | rfl | simp (disch := omega) only [go_sem, ↓reduceIte, zn1, zn2, zn3, zn4, zn5, zn6, reduceCtorEq, zn7, zi1, zi2, if_pos, if_neg]))) | (with_reducible apply SC.ops)))
  refine SC.loop (fun j : Nat => ⟨[(0, .im (tmsC r) r.length), (1, .sc (.int .i64 cols)), (5, .sc (.int .i64 j))], [], 0, 69⟩)
    (fun j => j ≤ r.length ∧ okR cols (lastC r j) (r.drop j) = X ∧ -1 ≤ lastC r j) (fun j => r.length - j) 0 ?_ ?_ ?_
  · (refine Le.slots ?_ ?_ ?_ <;> (repeat' (first | (exact fun _ _ h => h) | exact Nat.le_refl _ | exact leSl_nil | refine leSl_cons (by simp (disch := omega) only [go_sem, ↓reduceIte, zn1, zn2, zn3, zn4, zn5, zn6, reduceCtorEq, zn7, zi1, zi2, if_pos, if_neg] <;> rfl) ?_ ?_ | exact VLe.junk _ | exact VLe.refl rfl | exact VLe.nil_sl _ _ _ | exact VLe.int (by first | rfl | omega | (dsimp only; omega)) | exact VLe.bool rfl | exact VLe.sl rfl (by first | rfl | omega) | exact VLe.cap rfl (by first | rfl | omega) | exact VLe.im rfl rfl | omega | (refine fun id k h => ?_; simp only [hget] at h ⊢; (repeat' (split at h)) <;> first | (cases h; done) | (simp (disch := omega) only [if_pos, if_neg]; exact h)))))
  · exact ⟨Nat.zero_le _, hX, by show -1 ≤ (-1 : Int); omega⟩
  · rintro j ⟨hj, hXj, hlast⟩ K hK
    by_cases hc : j < r.length
    · have q3 : decide ((j : Int) < (r.length : Int)) = true := decide_eq_true (by omega)
      have g1 := tmsC_drop hc
      have g2 := tmsC_len r
      have g3 : j * 3 < (tmsC r).length := by omega
      rw [drop_cons hc] at hXj
      have hK2 : ∀ s' : SS, _ → _ → _ → K s' := fun s' h hx hy => hK s' (j + 1) h ⟨by omega, hx, hy⟩ (by omega)
      rw [lastC_succ] at hK2
      have hmt := hm _ (getDm (d := ⟨0, false, []⟩) hc)
      have gp : 0 < j → ∃ b' m', (tmsC r).drop ((j - 1) * 3) = [.sc (.int .i64 (lastC r j)), .sc (.bool b'), .im (uv m') m'.length] ++ (tmsC r).drop (j * 3) ∧ (j - 1) * 3 < (tmsC r).length := by
        intro hj0
        have h1 := tmsC_drop (l := r) (i := j - 1) (by omega)
        refine ⟨(r.getD (j - 1) ⟨0, false, []⟩).neg, (r.getD (j - 1) ⟨0, false, []⟩).mag, ?_, by omega⟩
        rw [h1, show j - 1 + 1 = j by omega]
        unfold lastC; rw [if_neg (by omega)]; rfl
      have x1 : 0 < j → ((j : Int) - 1).toNat = j - 1 := fun h => by omega
      generalize r.getD j ⟨0, false, []⟩ = t at *
      generalize r.drop (j + 1) = rest at *
      clear hK
      obtain ⟨c, b, m⟩ := t
      simp only at hK2 hmt
      unfold tmC at g1
      simp only at g1
      have l0 : j = 0 → lastC r j = -1 := fun h => by subst h; rfl
      generalize lastC r j = last at *
      generalize (tmsC r).drop ((j + 1) * 3) = DD at *
      rw [g1] at gp
      generalize tmsC r = TR at *
      generalize r.length = n at *
      rw [okR] at hXj
      simp only at hXj
      unfold okTm at hXj
      simp only at hXj
      have c1 := rvalid_s b (m := m) (by omega)
      have c2 := sign_s b m
      by_cases k3 : m.length = 0
      · have q8 : (m.length != 0) = false := by rw [k3]; rfl
        rw [q8, Bool.false_and, Bool.and_false, Bool.false_and] at hXj
        subst hXj
        rw [if_pos k3] at c2
        cases b
        · have e2 : vI false m = true := by unfold vI; rw [if_pos k3]; rfl
          rw [e2] at c1
          (repeat (first | (first | refine DO.nilC (by kernel_rfl) ?_ | refine DO.nil (by kernel_rfl) ?_) | (with_reducible first | apply oz1 | apply oz2 | apply oz3 | apply oz4 | apply oz5 | apply oz6 | apply oz7 | apply oz8 | apply oz9 | apply ozb | apply ozc | apply oze | apply ozf | apply ozg | apply ozh | apply ozi | apply ozj | apply ozk | refine ozd (by decide) ?_) | ((first | apply SO.call | apply DO.call); (iterate 3 (focus (simp (disch := omega) only [go_sem, ↓reduceIte, zn1, zn2, zn3, zn4, zn5, zn6, reduceCtorEq, zn7, zi1, zi2, if_pos, if_neg, q3, g1, g3, List.cons_append, List.nil_append, beq_self_eq_true] <;> rfl))); (first | apply SCall.ofX | apply DCall.ofX); (focus (first | assumption)); (focus (simp (disch := omega) only [go_sem, ↓reduceIte, zn1, zn2, zn3, zn4, zn5, zn6, reduceCtorEq, zn7, zi1, zi2, if_pos, if_neg, q3, g1, g3, List.cons_append, List.nil_append, beq_self_eq_true] <;> rfl))) | ((with_reducible first | apply SC.condB | apply SC.region | apply SO.run | apply DO.run); (focus (simp (disch := omega) only [go_sem, ↓reduceIte, zn1, zn2, zn3, zn4, zn5, zn6, reduceCtorEq, zn7, zi1, zi2, if_pos, if_neg, q3, g1, g3, List.cons_append, List.nil_append, beq_self_eq_true] <;> rfl)); (first | refine pickT ?_ | refine pickF ?_ | fail_if_success with_reducible refine pickA ?_)) | ((with_reducible refine SC.draw Tab.mixed ?_ ?_); (focus (first | rfl | simp (disch := omega) only [go_sem, ↓reduceIte, zn1, zn2, zn3, zn4, zn5, zn6, reduceCtorEq, zn7, zi1, zi2, if_pos, if_neg, q3, g1, g3, List.cons_append, List.nil_append, beq_self_eq_true]))) | (with_reducible apply SC.ops)))
          exact retQ_ret Tryd.results43 (by simp (disch := omega) only [go_sem, ↓reduceIte, zn1, zn2, zn3, zn4, zn5, zn6, reduceCtorEq, zn7, zi1, zi2, if_pos, if_neg] <;> rfl) (by simp (disch := omega) only [go_sem, ↓reduceIte, zn1, zn2, zn3, zn4, zn5, zn6, reduceCtorEq, zn7, zi1, zi2, if_pos, if_neg] <;> rfl) rfl
        · have e2 : vI true m = false := by unfold vI; rw [if_pos k3]; rfl
          rw [e2] at c1
          (repeat (first | (first | refine DO.nilC (by kernel_rfl) ?_ | refine DO.nil (by kernel_rfl) ?_) | (with_reducible first | apply oz1 | apply oz2 | apply oz3 | apply oz4 | apply oz5 | apply oz6 | apply oz7 | apply oz8 | apply oz9 | apply ozb | apply ozc | apply oze | apply ozf | apply ozg | apply ozh | apply ozi | apply ozj | apply ozk | refine ozd (by decide) ?_) | ((first | apply SO.call | apply DO.call); (iterate 3 (focus (simp (disch := omega) only [go_sem, ↓reduceIte, zn1, zn2, zn3, zn4, zn5, zn6, reduceCtorEq, zn7, zi1, zi2, if_pos, if_neg, q3, g1, g3, List.cons_append, List.nil_append] <;> rfl))); (first | apply SCall.ofX | apply DCall.ofX); (focus (first | assumption)); (focus (simp (disch := omega) only [go_sem, ↓reduceIte, zn1, zn2, zn3, zn4, zn5, zn6, reduceCtorEq, zn7, zi1, zi2, if_pos, if_neg, q3, g1, g3, List.cons_append, List.nil_append] <;> rfl))) | ((with_reducible first | apply SC.condB | apply SC.region | apply SO.run | apply DO.run); (focus (simp (disch := omega) only [go_sem, ↓reduceIte, zn1, zn2, zn3, zn4, zn5, zn6, reduceCtorEq, zn7, zi1, zi2, if_pos, if_neg, q3, g1, g3, List.cons_append, List.nil_append] <;> rfl)); (first | refine pickT ?_ | refine pickF ?_ | fail_if_success with_reducible refine pickA ?_)) | ((with_reducible refine SC.draw Tab.mixed ?_ ?_); (focus (first | rfl | simp (disch := omega) only [go_sem, ↓reduceIte, zn1, zn2, zn3, zn4, zn5, zn6, reduceCtorEq, zn7, zi1, zi2, if_pos, if_neg, q3, g1, g3, List.cons_append, List.nil_append]))) | (with_reducible apply SC.ops)))
          exact retQ_ret Tryd.results43 (by simp (disch := omega) only [go_sem, ↓reduceIte, zn1, zn2, zn3, zn4, zn5, zn6, reduceCtorEq, zn7, zi1, zi2, if_pos, if_neg] <;> rfl) (by simp (disch := omega) only [go_sem, ↓reduceIte, zn1, zn2, zn3, zn4, zn5, zn6, reduceCtorEq, zn7, zi1, zi2, if_pos, if_neg] <;> rfl) rfl
      · have q8 : (m.length != 0) = true := by rw [bne_iff_ne]; exact k3
        rw [q8, Bool.true_and] at hXj
        have e2 : vI b m = (m.getD (m.length - 1) 0 != 0) := by unfold vI; rw [if_neg k3]
        rw [e2] at c1
        rw [if_neg k3] at c2
        by_cases k4 : m.getD (m.length - 1) 0 = 0
        · have q9 : (m.getD (m.length - 1) 0 != 0) = false := by rw [k4]; rfl
          rw [q9, Bool.and_false, Bool.false_and] at hXj
          rw [q9] at c1
          subst hXj
          (repeat (first | (first | refine DO.nilC (by kernel_rfl) ?_ | refine DO.nil (by kernel_rfl) ?_) | (with_reducible first | apply oz1 | apply oz2 | apply oz3 | apply oz4 | apply oz5 | apply oz6 | apply oz7 | apply oz8 | apply oz9 | apply ozb | apply ozc | apply oze | apply ozf | apply ozg | apply ozh | apply ozi | apply ozj | apply ozk | refine ozd (by decide) ?_) | ((first | apply SO.call | apply DO.call); (iterate 3 (focus (simp (disch := omega) only [go_sem, ↓reduceIte, zn1, zn2, zn3, zn4, zn5, zn6, reduceCtorEq, zn7, zi1, zi2, if_pos, if_neg, q3, g1, g3, List.cons_append, List.nil_append] <;> rfl))); (first | apply SCall.ofX | apply DCall.ofX); (focus (first | assumption)); (focus (simp (disch := omega) only [go_sem, ↓reduceIte, zn1, zn2, zn3, zn4, zn5, zn6, reduceCtorEq, zn7, zi1, zi2, if_pos, if_neg, q3, g1, g3, List.cons_append, List.nil_append] <;> rfl))) | ((with_reducible first | apply SC.condB | apply SC.region | apply SO.run | apply DO.run); (focus (simp (disch := omega) only [go_sem, ↓reduceIte, zn1, zn2, zn3, zn4, zn5, zn6, reduceCtorEq, zn7, zi1, zi2, if_pos, if_neg, q3, g1, g3, List.cons_append, List.nil_append] <;> rfl)); (first | refine pickT ?_ | refine pickF ?_ | fail_if_success with_reducible refine pickA ?_)) | ((with_reducible refine SC.draw Tab.mixed ?_ ?_); (focus (first | rfl | simp (disch := omega) only [go_sem, ↓reduceIte, zn1, zn2, zn3, zn4, zn5, zn6, reduceCtorEq, zn7, zi1, zi2, if_pos, if_neg, q3, g1, g3, List.cons_append, List.nil_append]))) | (with_reducible apply SC.ops)))
          exact retQ_ret Tryd.results43 (by simp (disch := omega) only [go_sem, ↓reduceIte, zn1, zn2, zn3, zn4, zn5, zn6, reduceCtorEq, zn7, zi1, zi2, if_pos, if_neg] <;> rfl) (by simp (disch := omega) only [go_sem, ↓reduceIte, zn1, zn2, zn3, zn4, zn5, zn6, reduceCtorEq, zn7, zi1, zi2, if_pos, if_neg] <;> rfl) rfl
        · have q9 : (m.getD (m.length - 1) 0 != 0) = true := by rw [bne_iff_ne]; exact k4
          rw [q9, Bool.and_true] at hXj
          rw [q9] at c1
          have q10 : ((if b = true then (-1 : Int) else 1) == 0) = false := by cases b <;> rfl
          generalize (if b = true then (-1 : Int) else 1) = sg at *
          by_cases k0 : c < 0
          · have q4 : decide (c < 0) = true := decide_eq_true k0
            have q5 : decide (last < c) = false := decide_eq_false (by omega)
            rw [q5, Bool.false_and, Bool.false_and] at hXj
            subst hXj
            (repeat (first | (first | refine DO.nilC (by kernel_rfl) ?_ | refine DO.nil (by kernel_rfl) ?_) | (with_reducible first | apply oz1 | apply oz2 | apply oz3 | apply oz4 | apply oz5 | apply oz6 | apply oz7 | apply oz8 | apply oz9 | apply ozb | apply ozc | apply oze | apply ozf | apply ozg | apply ozh | apply ozi | apply ozj | apply ozk | refine ozd (by decide) ?_) | ((first | apply SO.call | apply DO.call); (iterate 3 (focus (simp (disch := omega) only [go_sem, ↓reduceIte, zn1, zn2, zn3, zn4, zn5, zn6, reduceCtorEq, zn7, zi1, zi2, if_pos, if_neg, q3, q4, q10, g1, g3, List.cons_append, List.nil_append] <;> rfl))); (first | apply SCall.ofX | apply DCall.ofX); (focus (first | assumption)); (focus (simp (disch := omega) only [go_sem, ↓reduceIte, zn1, zn2, zn3, zn4, zn5, zn6, reduceCtorEq, zn7, zi1, zi2, if_pos, if_neg, q3, q4, q10, g1, g3, List.cons_append, List.nil_append] <;> rfl))) | ((with_reducible first | apply SC.condB | apply SC.region | apply SO.run | apply DO.run); (focus (simp (disch := omega) only [go_sem, ↓reduceIte, zn1, zn2, zn3, zn4, zn5, zn6, reduceCtorEq, zn7, zi1, zi2, if_pos, if_neg, q3, q4, q10, g1, g3, List.cons_append, List.nil_append] <;> rfl)); (first | refine pickT ?_ | refine pickF ?_ | fail_if_success with_reducible refine pickA ?_)) | ((with_reducible refine SC.draw Tab.mixed ?_ ?_); (focus (first | rfl | simp (disch := omega) only [go_sem, ↓reduceIte, zn1, zn2, zn3, zn4, zn5, zn6, reduceCtorEq, zn7, zi1, zi2, if_pos, if_neg, q3, q4, q10, g1, g3, List.cons_append, List.nil_append]))) | (with_reducible apply SC.ops)))
            exact retQ_ret Tryd.results43 (by simp (disch := omega) only [go_sem, ↓reduceIte, zn1, zn2, zn3, zn4, zn5, zn6, reduceCtorEq, zn7, zi1, zi2, if_pos, if_neg] <;> rfl) (by simp (disch := omega) only [go_sem, ↓reduceIte, zn1, zn2, zn3, zn4, zn5, zn6, reduceCtorEq, zn7, zi1, zi2, if_pos, if_neg] <;> rfl) rfl
          · have q4 : decide (c < 0) = false := decide_eq_false k0
            by_cases k2 : cols ≤ c
            · have q6 : decide (c ≥ cols) = true := decide_eq_true k2
              have q6' : decide (cols ≤ c) = true := decide_eq_true k2
              have q7 : decide (c < cols) = false := decide_eq_false (by omega)
              rw [q7, Bool.and_false, Bool.false_and] at hXj
              subst hXj
              (repeat (first | (first | refine DO.nilC (by kernel_rfl) ?_ | refine DO.nil (by kernel_rfl) ?_) | (with_reducible first | apply oz1 | apply oz2 | apply oz3 | apply oz4 | apply oz5 | apply oz6 | apply oz7 | apply oz8 | apply oz9 | apply ozb | apply ozc | apply oze | apply ozf | apply ozg | apply ozh | apply ozi | apply ozj | apply ozk | refine ozd (by decide) ?_) | ((first | apply SO.call | apply DO.call); (iterate 3 (focus (simp (disch := omega) only [go_sem, ↓reduceIte, zn1, zn2, zn3, zn4, zn5, zn6, reduceCtorEq, zn7, zi1, zi2, if_pos, if_neg, q0, q0', q3, q4, q6, q6', q10, g1, g3, List.cons_append, List.nil_append] <;> rfl))); (first | apply SCall.ofX | apply DCall.ofX); (focus (first | assumption)); (focus (simp (disch := omega) only [go_sem, ↓reduceIte, zn1, zn2, zn3, zn4, zn5, zn6, reduceCtorEq, zn7, zi1, zi2, if_pos, if_neg, q0, q0', q3, q4, q6, q6', q10, g1, g3, List.cons_append, List.nil_append] <;> rfl))) | ((with_reducible first | apply SC.condB | apply SC.region | apply SO.run | apply DO.run); (focus (simp (disch := omega) only [go_sem, ↓reduceIte, zn1, zn2, zn3, zn4, zn5, zn6, reduceCtorEq, zn7, zi1, zi2, if_pos, if_neg, q0, q0', q3, q4, q6, q6', q10, g1, g3, List.cons_append, List.nil_append] <;> rfl)); (first | refine pickT ?_ | refine pickF ?_ | fail_if_success with_reducible refine pickA ?_)) | ((with_reducible refine SC.draw Tab.mixed ?_ ?_); (focus (first | rfl | simp (disch := omega) only [go_sem, ↓reduceIte, zn1, zn2, zn3, zn4, zn5, zn6, reduceCtorEq, zn7, zi1, zi2, if_pos, if_neg, q0, q0', q3, q4, q6, q6', q10, g1, g3, List.cons_append, List.nil_append]))) | (with_reducible apply SC.ops)))
              exact retQ_ret Tryd.results43 (by simp (disch := omega) only [go_sem, ↓reduceIte, zn1, zn2, zn3, zn4, zn5, zn6, reduceCtorEq, zn7, zi1, zi2, if_pos, if_neg] <;> rfl) (by simp (disch := omega) only [go_sem, ↓reduceIte, zn1, zn2, zn3, zn4, zn5, zn6, reduceCtorEq, zn7, zi1, zi2, if_pos, if_neg] <;> rfl) rfl
            · have q6 : decide (c ≥ cols) = false := decide_eq_false k2
              have q6' : decide (cols ≤ c) = false := decide_eq_false k2
              have q7 : decide (c < cols) = true := decide_eq_true (by omega)
              rw [q7, Bool.and_true] at hXj
              by_cases kj : 0 < j
              · have r1 : decide ((j : Int) > 0) = true := decide_eq_true (by omega)
                have r1' : decide ((0 : Int) < j) = true := decide_eq_true (by omega)
                obtain ⟨b', m', gp1, gp2⟩ := gp kj
                have x2 := x1 kj
                by_cases k1 : c ≤ last
                · have q5 : decide (last < c) = false := decide_eq_false (by omega)
                  have r2 : decide (last ≥ c) = true := decide_eq_true k1
                  have r2' : decide (c ≤ last) = true := decide_eq_true k1
                  rw [q5, Bool.false_and] at hXj
                  subst hXj
                  (repeat (first | (first | refine DO.nilC (by kernel_rfl) ?_ | refine DO.nil (by kernel_rfl) ?_) | (with_reducible first | apply oz1 | apply oz2 | apply oz3 | apply oz4 | apply oz5 | apply oz6 | apply oz7 | apply oz8 | apply oz9 | apply ozb | apply ozc | apply oze | apply ozf | apply ozg | apply ozh | apply ozi | apply ozj | apply ozk | refine ozd (by decide) ?_) | ((first | apply SO.call | apply DO.call); (iterate 3 (focus (simp (disch := omega) only [go_sem, ↓reduceIte, zn1, zn2, zn3, zn4, zn5, zn6, reduceCtorEq, zn7, zi1, zi2, if_pos, if_neg, q0, q0', q3, q4, q6, q6', q10, r1, r1', r2, r2', x2, g1, g3, gp1, gp2, List.cons_append, List.nil_append] <;> rfl))); (first | apply SCall.ofX | apply DCall.ofX); (focus (first | assumption)); (focus (simp (disch := omega) only [go_sem, ↓reduceIte, zn1, zn2, zn3, zn4, zn5, zn6, reduceCtorEq, zn7, zi1, zi2, if_pos, if_neg, q0, q0', q3, q4, q6, q6', q10, r1, r1', r2, r2', x2, g1, g3, gp1, gp2, List.cons_append, List.nil_append] <;> rfl))) | ((with_reducible first | apply SC.condB | apply SC.region | apply SO.run | apply DO.run); (focus (simp (disch := omega) only [go_sem, ↓reduceIte, zn1, zn2, zn3, zn4, zn5, zn6, reduceCtorEq, zn7, zi1, zi2, if_pos, if_neg, q0, q0', q3, q4, q6, q6', q10, r1, r1', r2, r2', x2, g1, g3, gp1, gp2, List.cons_append, List.nil_append] <;> rfl)); (first | refine pickT ?_ | refine pickF ?_ | fail_if_success with_reducible refine pickA ?_)) | ((with_reducible refine SC.draw Tab.mixed ?_ ?_); (focus (first | rfl | simp (disch := omega) only [go_sem, ↓reduceIte, zn1, zn2, zn3, zn4, zn5, zn6, reduceCtorEq, zn7, zi1, zi2, if_pos, if_neg, q0, q0', q3, q4, q6, q6', q10, r1, r1', r2, r2', x2, g1, g3, gp1, gp2, List.cons_append, List.nil_append]))) | (with_reducible apply SC.ops)))
                  exact retQ_ret Tryd.results43 (by simp (disch := omega) only [go_sem, ↓reduceIte, zn1, zn2, zn3, zn4, zn5, zn6, reduceCtorEq, zn7, zi1, zi2, if_pos, if_neg] <;> rfl) (by simp (disch := omega) only [go_sem, ↓reduceIte, zn1, zn2, zn3, zn4, zn5, zn6, reduceCtorEq, zn7, zi1, zi2, if_pos, if_neg] <;> rfl) rfl
                · have q5 : decide (last < c) = true := decide_eq_true (by omega)
                  have r2 : decide (last ≥ c) = false := decide_eq_false k1
                  have r2' : decide (c ≤ last) = false := decide_eq_false k1
                  rw [q5, Bool.true_and] at hXj
                  (repeat (first | (first | refine DO.nilC (by kernel_rfl) ?_ | refine DO.nil (by kernel_rfl) ?_) | (with_reducible first | apply oz1 | apply oz2 | apply oz3 | apply oz4 | apply oz5 | apply oz6 | apply oz7 | apply oz8 | apply oz9 | apply ozb | apply ozc | apply oze | apply ozf | apply ozg | apply ozh | apply ozi | apply ozj | apply ozk | refine ozd (by decide) ?_) | ((first | apply SO.call | apply DO.call); (iterate 3 (focus (simp (disch := omega) only [go_sem, ↓reduceIte, zn1, zn2, zn3, zn4, zn5, zn6, reduceCtorEq, zn7, zi1, zi2, if_pos, if_neg, q0, q0', q3, q4, q6, q6', q10, r1, r1', r2, r2', x2, g1, g3, gp1, gp2, List.cons_append, List.nil_append] <;> rfl))); (first | apply SCall.ofX | apply DCall.ofX); (focus (first | assumption)); (focus (simp (disch := omega) only [go_sem, ↓reduceIte, zn1, zn2, zn3, zn4, zn5, zn6, reduceCtorEq, zn7, zi1, zi2, if_pos, if_neg, q0, q0', q3, q4, q6, q6', q10, r1, r1', r2, r2', x2, g1, g3, gp1, gp2, List.cons_append, List.nil_append] <;> rfl))) | ((with_reducible first | apply SC.condB | apply SC.region | apply SO.run | apply DO.run); (focus (simp (disch := omega) only [go_sem, ↓reduceIte, zn1, zn2, zn3, zn4, zn5, zn6, reduceCtorEq, zn7, zi1, zi2, if_pos, if_neg, q0, q0', q3, q4, q6, q6', q10, r1, r1', r2, r2', x2, g1, g3, gp1, gp2, List.cons_append, List.nil_append] <;> rfl)); (first | refine pickT ?_ | refine pickF ?_ | fail_if_success with_reducible refine pickA ?_)) | ((with_reducible refine SC.draw Tab.mixed ?_ ?_); (focus (first | rfl | simp (disch := omega) only [go_sem, ↓reduceIte, zn1, zn2, zn3, zn4, zn5, zn6, reduceCtorEq, zn7, zi1, zi2, if_pos, if_neg, q0, q0', q3, q4, q6, q6', q10, r1, r1', r2, r2', x2, g1, g3, gp1, gp2, List.cons_append, List.nil_append]))) | (with_reducible apply SC.ops)))
                  refine hK2 _ ?_ hXj (by omega)
                  (refine Le.slots ?_ ?_ ?_ <;> (repeat' (first | (exact fun _ _ h => h) | exact Nat.le_refl _ | exact leSl_nil | refine leSl_cons (by simp (disch := omega) only [go_sem, ↓reduceIte, zn1, zn2, zn3, zn4, zn5, zn6, reduceCtorEq, zn7, zi1, zi2, if_pos, if_neg] <;> rfl) ?_ ?_ | exact VLe.junk _ | exact VLe.refl rfl | exact VLe.nil_sl _ _ _ | exact VLe.int (by first | rfl | omega | (dsimp only; omega)) | exact VLe.bool rfl | exact VLe.sl rfl (by first | rfl | omega) | exact VLe.cap rfl (by first | rfl | omega) | exact VLe.im rfl rfl | omega | (refine fun id k h => ?_; simp only [hget] at h ⊢; (repeat' (split at h)) <;> first | (cases h; done) | (simp (disch := omega) only [if_pos, if_neg]; exact h)))))
              · have r1 : decide ((j : Int) > 0) = false := decide_eq_false (by omega)
                have r1' : decide ((0 : Int) < j) = false := decide_eq_false (by omega)
                have hl := l0 (by omega)
                have q5 : decide (last < c) = true := decide_eq_true (by omega)
                rw [q5, Bool.true_and] at hXj
                (repeat (first | (first | refine DO.nilC (by kernel_rfl) ?_ | refine DO.nil (by kernel_rfl) ?_) | (with_reducible first | apply oz1 | apply oz2 | apply oz3 | apply oz4 | apply oz5 | apply oz6 | apply oz7 | apply oz8 | apply oz9 | apply ozb | apply ozc | apply oze | apply ozf | apply ozg | apply ozh | apply ozi | apply ozj | apply ozk | refine ozd (by decide) ?_) | ((first | apply SO.call | apply DO.call); (iterate 3 (focus (simp (disch := omega) only [go_sem, ↓reduceIte, zn1, zn2, zn3, zn4, zn5, zn6, reduceCtorEq, zn7, zi1, zi2, if_pos, if_neg, q0, q0', q3, q4, q6, q6', q10, r1, r1', g1, g3, List.cons_append, List.nil_append] <;> rfl))); (first | apply SCall.ofX | apply DCall.ofX); (focus (first | assumption)); (focus (simp (disch := omega) only [go_sem, ↓reduceIte, zn1, zn2, zn3, zn4, zn5, zn6, reduceCtorEq, zn7, zi1, zi2, if_pos, if_neg, q0, q0', q3, q4, q6, q6', q10, r1, r1', g1, g3, List.cons_append, List.nil_append] <;> rfl))) | ((with_reducible first | apply SC.condB | apply SC.region | apply SO.run | apply DO.run); (focus (simp (disch := omega) only [go_sem, ↓reduceIte, zn1, zn2, zn3, zn4, zn5, zn6, reduceCtorEq, zn7, zi1, zi2, if_pos, if_neg, q0, q0', q3, q4, q6, q6', q10, r1, r1', g1, g3, List.cons_append, List.nil_append] <;> rfl)); (first | refine pickT ?_ | refine pickF ?_ | fail_if_success with_reducible refine pickA ?_)) | ((with_reducible refine SC.draw Tab.mixed ?_ ?_); (focus (first | rfl | simp (disch := omega) only [go_sem, ↓reduceIte, zn1, zn2, zn3, zn4, zn5, zn6, reduceCtorEq, zn7, zi1, zi2, if_pos, if_neg, q0, q0', q3, q4, q6, q6', q10, r1, r1', g1, g3, List.cons_append, List.nil_append]))) | (with_reducible apply SC.ops)))
                refine hK2 _ ?_ hXj (by omega)
                (refine Le.slots ?_ ?_ ?_ <;> (repeat' (first | (exact fun _ _ h => h) | exact Nat.le_refl _ | exact leSl_nil | refine leSl_cons (by simp (disch := omega) only [go_sem, ↓reduceIte, zn1, zn2, zn3, zn4, zn5, zn6, reduceCtorEq, zn7, zi1, zi2, if_pos, if_neg] <;> rfl) ?_ ?_ | exact VLe.junk _ | exact VLe.refl rfl | exact VLe.nil_sl _ _ _ | exact VLe.int (by first | rfl | omega | (dsimp only; omega)) | exact VLe.bool rfl | exact VLe.sl rfl (by first | rfl | omega) | exact VLe.cap rfl (by first | rfl | omega) | exact VLe.im rfl rfl | omega | (refine fun id k h => ?_; simp only [hget] at h ⊢; (repeat' (split at h)) <;> first | (cases h; done) | (simp (disch := omega) only [if_pos, if_neg]; exact h)))))
    · have q3 : decide ((j : Int) < (r.length : Int)) = false := decide_eq_false (by omega)
      have hjn : j = r.length := by omega
      subst hjn
      rw [List.drop_length] at hXj
      have : X = true := hXj.symm
      subst this
      (repeat (first | (first | refine DO.nilC (by kernel_rfl) ?_ | refine DO.nil (by kernel_rfl) ?_) | (with_reducible first | apply oz1 | apply oz2 | apply oz3 | apply oz4 | apply oz5 | apply oz6 | apply oz7 | apply oz8 | apply oz9 | apply ozb | apply ozc | apply oze | apply ozf | apply ozg | apply ozh | apply ozi | apply ozj | apply ozk | refine ozd (by decide) ?_) | ((first | apply SO.call | apply DO.call); (iterate 3 (focus (simp (disch := omega) only [go_sem, ↓reduceIte, zn1, zn2, zn3, zn4, zn5, zn6, reduceCtorEq, zn7, zi1, zi2, if_pos, if_neg, q3] <;> rfl))); (first | apply SCall.ofX | apply DCall.ofX); (focus (first | assumption)); (focus (simp (disch := omega) only [go_sem, ↓reduceIte, zn1, zn2, zn3, zn4, zn5, zn6, reduceCtorEq, zn7, zi1, zi2, if_pos, if_neg, q3] <;> rfl))) | ((with_reducible first | apply SC.condB | apply SC.region | apply SO.run | apply DO.run); (focus (simp (disch := omega) only [go_sem, ↓reduceIte, zn1, zn2, zn3, zn4, zn5, zn6, reduceCtorEq, zn7, zi1, zi2, if_pos, if_neg, q3] <;> rfl)); (first | refine pickT ?_ | refine pickF ?_ | fail_if_success with_reducible refine pickA ?_)) | ((with_reducible refine SC.draw Tab.mixed ?_ ?_); (focus (first | rfl | simp (disch := omega) only [go_sem, ↓reduceIte, zn1, zn2, zn3, zn4, zn5, zn6, reduceCtorEq, zn7, zi1, zi2, if_pos, if_neg, q3]))) | (with_reducible apply SC.ops)))
      exact retQ_ret Tryd.results43 (by simp (disch := omega) only [go_sem, ↓reduceIte, zn1, zn2, zn3, zn4, zn5, zn6, reduceCtorEq, zn7, zi1, zi2, if_pos, if_neg] <;> rfl) (by simp (disch := omega) only [go_sem, ↓reduceIte, zn1, zn2, zn3, zn4, zn5, zn6, reduceCtorEq, zn7, zi1, zi2, if_pos, if_neg] <;> rfl) rfl
end Go.Proofs.YtpbnhioelmgaiaaDoor
