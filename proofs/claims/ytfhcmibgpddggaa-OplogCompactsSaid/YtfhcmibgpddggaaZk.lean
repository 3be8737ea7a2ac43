/- Texts joined: Rg Rh Ri Rj Rk. -/
import Derived.Test.YtfhcmibgpddggaaZf
import Derived.Test.YtfhcmibgpddggaaZi
import Derived.Test.YtfhcmibgpddggaaZj
set_option linter.all false
open Nat renaming reduceEqDiff → zn1, reduceLT → zn2, reduceLeDiff → zn3, reduceAdd → zn4, reduceMul → zn5, reduceSub → zn6, reduceBEq → zn7
open Int renaming reduceToNat → zi1, reducePow → zi2
namespace Go.Proofs.Ytfhcmibgpddggaa
open Go.RowKit
set_option maxHeartbeats 4000000 in
set_option maxRecDepth 4000 in
theorem imValid_s {h w K : Nat} {M : List (List Int)} (hM : MI h w K M) (hK : K ≤ 1000000) (hn : h ≤ 1000000) (hw : w ≤ 1000000) : Spec Try.prog 33 [mat w M] (.sc (.bool true)) := by
  have hl := hM.len
  have gl := imI_len w M
  unfold mat
  refine Spec.run Try.func33 rfl Try.ntmps33 (by simp) (by simp (disch := omega) only [go_sem]; rfl) fun B hB => ?_
  have p1 : decide ((M.length : Int) < 0) = false := decide_eq_false (by omega)
  have p2 : decide ((w : Int) < 0) = false := decide_eq_false (by omega)
  (repeat (first | refine DO.nil (by kernel_rfl) ?_ | (with_reducible first | apply oz1 | apply oz2 | apply oz3 | apply oz4 | apply oz5 | apply oz6 | apply oz7 | apply oz8 | apply oz9 | apply ozb | apply ozc | apply oze | apply ozf | apply ozg | apply ozh | apply ozi | apply ozj | apply ozk | refine ozd (by decide) ?_) | ((first | apply SO.call | apply DO.call); (iterate 3 (focus (simp (disch := omega) only [go_sem, ↓reduceIte, zn1, zn2, zn3, zn4, zn5, zn6, reduceCtorEq, zn7, zi1, zi2, if_pos, if_neg, bne_self_eq_false, beq_self_eq_true, p1, p2, gl] <;> rfl))); (first | apply SCall.ofX | apply DCall.ofX); (focus (first | assumption)); (focus (simp (disch := omega) only [go_sem, ↓reduceIte, zn1, zn2, zn3, zn4, zn5, zn6, reduceCtorEq, zn7, zi1, zi2, if_pos, if_neg, bne_self_eq_false, beq_self_eq_true, p1, p2, gl] <;> rfl))) | ((with_reducible first | apply SC.condB | apply SC.region | apply SO.run | apply DO.run); (focus (simp (disch := omega) only [go_sem, ↓reduceIte, zn1, reduceCtorEq, bne_self_eq_false, beq_self_eq_true, p1, p2] <;> rfl)); (first | refine pickT ?_ | refine pickF ?_ | fail_if_success with_reducible refine pickA ?_)) | ((with_reducible refine SC.draw Tab.mixed ?_ ?_); (focus (first | rfl | simp (disch := omega) only [go_sem, ↓reduceIte, zn1, zn2, zn3, zn4, zn5, zn6, reduceCtorEq, zn7, zi1, zi2, if_pos, if_neg, bne_self_eq_false, beq_self_eq_true, p1, p2, gl]))) | (with_reducible apply SC.ops)))
  refine SC.loop (fun i : Nat => ⟨[(1, .pt 0 0), (24, .im (imR w (rI M)) M.length), (25, .sc (.int .i64 M.length)), (26, .sc (.int .i64 i))], [(0, ⟨29, [.sc (.int .i64 M.length), .sc (.int .i64 w), .im (imR w (rI M)) M.length], false⟩)], 1, 46⟩)
    (fun i => i ≤ h) (fun i => h - i) 0 ?_ ?_ ?_
  · (refine Le.of [] hB (by first | exact ⟨Nat.zero_le _, fun _ _ => Nat.zero_le _⟩ | (constructor <;> (try simp) <;> (try omega))) ?_ ?_ <;> (repeat' (first | exact leSl_nil | exact leHp_nil | refine leSl_cons (by simp (disch := omega) only [go_sem, ↓reduceIte, zn1]; rfl) ?_ ?_ | refine leHp_cons (by simp (disch := omega) only [go_sem, ↓reduceIte]; rfl) ?_ ?_ | exact VLe.junk _ | exact VLe.refl rfl | exact VLe.nil_sl _ _ _ | exact VLe.int (by first | rfl | omega | (dsimp only; omega)) | exact VLe.bool rfl | exact VLe.sl rfl (by first | rfl | omega | (dsimp only; omega) | (simp; done)) | exact VLe.cap rfl (by first | rfl | omega | (dsimp only; omega) | (simp; done)) | exact VLe.im rfl rfl | exact HLe.new rfl | exact HLe.same rfl (LLe.refl rfl) | refine HLe.same rfl ?_ | exact LLe.nil _ | exact LLe.refl rfl | refine LLe.cons ?_ ?_)))
  · exact Nat.zero_le _
  · intro i hi K2 hK2
    by_cases hc : i < h
    · have q1 := decide_eq_true (p := (i : Int) < (M.length : Int)) (by omega)
      have g1 := imI_get (w := w) (M := M) (i := i) (by omega)
      have hr := hM.get hc
      have glr := ivR_len (M.getD i [])
      (repeat (first | refine DO.nil (by kernel_rfl) ?_ | (with_reducible first | apply oz1 | apply oz2 | apply oz3 | apply oz4 | apply oz5 | apply oz6 | apply oz7 | apply oz8 | apply oz9 | apply ozb | apply ozc | apply oze | apply ozf | apply ozg | apply ozh | apply ozi | apply ozj | apply ozk | refine ozd (by decide) ?_) | ((first | apply SO.call | apply DO.call); (iterate 3 (focus (simp (disch := omega) only [go_sem, ↓reduceIte, zn1, zn2, zn3, zn4, zn5, zn6, reduceCtorEq, zn7, zi1, zi2, if_pos, if_neg, bne_self_eq_false, beq_self_eq_true, q1, g1, gl, List.getElem?_drop] <;> rfl))); (first | apply SCall.ofX | apply DCall.ofX); (focus (first | assumption)); (focus (simp (disch := omega) only [go_sem, ↓reduceIte, zn1, zn2, zn3, zn4, zn5, zn6, reduceCtorEq, zn7, zi1, zi2, if_pos, if_neg, bne_self_eq_false, beq_self_eq_true, q1, g1, gl, List.getElem?_drop] <;> rfl))) | ((with_reducible first | apply SC.condB | apply SC.region | apply SO.run | apply DO.run); (focus (simp (disch := omega) only [go_sem, ↓reduceIte, zn1, reduceCtorEq, if_pos, bne_self_eq_false, q1, g1, gl, List.getElem?_drop] <;> rfl)); (first | refine pickT ?_ | refine pickF ?_ | fail_if_success with_reducible refine pickA ?_)) | ((with_reducible refine SC.draw Tab.mixed ?_ ?_); (focus (first | rfl | simp (disch := omega) only [go_sem, ↓reduceIte, zn1, zn2, zn3, zn4, zn5, zn6, reduceCtorEq, zn7, zi1, zi2, if_pos, if_neg, bne_self_eq_false, beq_self_eq_true, q1, g1, gl, List.getElem?_drop]))) | (with_reducible apply SC.ops)))
      refine SC.loop (fun t : Nat => ⟨[(1, .pt 0 0), (24, .im (imR w (rI M)) M.length), (25, .sc (.int .i64 M.length)), (26, .sc (.int .i64 i)), (35, .im (ivR (M.getD i [])) w), (36, .sc (.int .i64 w)), (37, .sc (.int .i64 t))], [(0, ⟨29, [.sc (.int .i64 M.length), .sc (.int .i64 w), .im (imR w (rI M)) M.length], false⟩)], 1, 46⟩)
        (fun t => t ≤ w) (fun t => w - t) 0 ?_ ?_ ?_
      · (refine Le.of [] hB (by first | exact ⟨Nat.zero_le _, fun _ _ => Nat.zero_le _⟩ | (constructor <;> (try simp) <;> (try omega))) ?_ ?_ <;> (repeat' (first | exact leSl_nil | exact leHp_nil | refine leSl_cons (by simp (disch := omega) only [go_sem, ↓reduceIte, zn1]; rfl) ?_ ?_ | refine leHp_cons (by simp (disch := omega) only [go_sem, ↓reduceIte]; rfl) ?_ ?_ | exact VLe.junk _ | exact VLe.refl rfl | exact VLe.nil_sl _ _ _ | exact VLe.int (by first | rfl | omega | (dsimp only; omega)) | exact VLe.bool rfl | exact VLe.sl rfl (by first | rfl | omega | (dsimp only; omega) | (simp; done)) | exact VLe.cap rfl (by first | rfl | omega | (dsimp only; omega) | (simp; done)) | exact VLe.im rfl rfl | exact HLe.new rfl | exact HLe.same rfl (LLe.refl rfl) | refine HLe.same rfl ?_ | exact LLe.nil _ | exact LLe.refl rfl | refine LLe.cons ?_ ?_)))
      · exact Nat.zero_le _
      · intro t ht K3 hK3
        by_cases hc2 : t < w
        · have q2 := decide_eq_true (p := (t : Int) < (w : Int)) (by omega)
          have c1 := pvalid_i _ K (hM.fit hc hc2) (by omega)
          have gd := ivR_drop (l := M.getD i []) (i := t) (by omega)
          have g2 : t * 2 < (ivR (M.getD i [])).length := by omega
          generalize (ivR (M.getD i [])).drop ((t + 1) * 2) = D at *
          generalize ivR (M.getD i []) = A at *
          generalize (M.getD i []).getD t 0 = x at *
          unfold iv sv at c1
          unfold ivC sv at gd
          simp only [List.cons_append, List.nil_append] at gd
          (repeat (first | refine DO.nil (by kernel_rfl) ?_ | (with_reducible first | apply oz1 | apply oz2 | apply oz3 | apply oz4 | apply oz5 | apply oz6 | apply oz7 | apply oz8 | apply oz9 | apply ozb | apply ozc | apply oze | apply ozf | apply ozg | apply ozh | apply ozi | apply ozj | apply ozk | refine ozd (by decide) ?_) | ((first | apply SO.call | apply DO.call); (iterate 3 (focus (simp (disch := omega) only [go_sem, ↓reduceIte] <;> rfl))); (first | apply SCall.ofX | apply DCall.ofX); (focus (first | assumption)); (focus (simp (disch := omega) only [go_sem] <;> rfl))) | ((with_reducible first | apply SC.condB | apply SC.region | apply SO.run | apply DO.run); (focus (simp (disch := omega) only [go_sem, ↓reduceIte, zn1, zn3, zn4, if_pos, q2, gd, g2] <;> rfl)); (first | refine pickT ?_ | refine pickF ?_ | fail_if_success with_reducible refine pickA ?_)) | ((with_reducible refine SC.draw Tab.mixed ?_ ?_); (focus (first | rfl | simp (disch := omega) only [go_sem, ↓reduceIte, zn1, zn2, zn3, zn4, zn5, zn6, reduceCtorEq, zn7, zi1, zi2, if_pos, if_neg, bne_self_eq_false, beq_self_eq_true, q2, gd, g2]))) | (with_reducible apply SC.ops)))
          refine hK3 _ (t + 1) ?_ (by omega) (by omega)
          (refine Le.of [] hB (by first | exact ⟨Nat.zero_le _, fun _ _ => Nat.zero_le _⟩ | (constructor <;> (try simp) <;> (try omega))) ?_ ?_ <;> (repeat' (first | exact leSl_nil | exact leHp_nil | refine leSl_cons (by simp (disch := omega) only [go_sem, ↓reduceIte, zn1]; rfl) ?_ ?_ | refine leHp_cons (by simp (disch := omega) only [go_sem, ↓reduceIte, reduceCtorEq]; rfl) ?_ ?_ | exact VLe.junk _ | exact VLe.refl rfl | exact VLe.nil_sl _ _ _ | exact VLe.int (by first | rfl | omega | (dsimp only; omega)) | exact VLe.bool rfl | exact VLe.sl rfl (by first | rfl | omega | (dsimp only; omega) | (simp; done)) | exact VLe.cap rfl (by first | rfl | omega | (dsimp only; omega) | (simp; done)) | exact VLe.im rfl rfl | exact HLe.new rfl | exact HLe.same rfl (LLe.refl rfl) | refine HLe.same rfl ?_ | exact LLe.nil _ | exact LLe.refl rfl | refine LLe.cons ?_ ?_)))
        · have q2 := decide_eq_false (p := (t : Int) < (w : Int)) (by omega)
          (repeat (first | refine DO.nil (by kernel_rfl) ?_ | (with_reducible first | apply oz1 | apply oz2 | apply oz3 | apply oz4 | apply oz5 | apply oz6 | apply oz7 | apply oz8 | apply oz9 | apply ozb | apply ozc | apply oze | apply ozf | apply ozg | apply ozh | apply ozi | apply ozj | apply ozk | refine ozd (by decide) ?_) | ((first | apply SO.call | apply DO.call); (iterate 3 (focus (simp (disch := omega) only [go_sem, ↓reduceIte, zn1, zn2, zn3, zn4, zn5, zn6, reduceCtorEq, zn7, zi1, zi2, if_pos, if_neg, bne_self_eq_false, beq_self_eq_true, q2] <;> rfl))); (first | apply SCall.ofX | apply DCall.ofX); (focus (first | assumption)); (focus (simp (disch := omega) only [go_sem, ↓reduceIte, zn1, zn2, zn3, zn4, zn5, zn6, reduceCtorEq, zn7, zi1, zi2, if_pos, if_neg, bne_self_eq_false, beq_self_eq_true, q2] <;> rfl))) | ((with_reducible first | apply SC.condB | apply SC.region | apply SO.run | apply DO.run); (focus (simp (disch := omega) only [go_sem, ↓reduceIte, zn1, zn2, q2] <;> rfl)); (first | refine pickT ?_ | refine pickF ?_ | fail_if_success with_reducible refine pickA ?_)) | ((with_reducible refine SC.draw Tab.mixed ?_ ?_); (focus (first | rfl | simp (disch := omega) only [go_sem, ↓reduceIte, zn1, zn2, zn3, zn4, zn5, zn6, reduceCtorEq, zn7, zi1, zi2, if_pos, if_neg, bne_self_eq_false, beq_self_eq_true, q2]))) | (with_reducible apply SC.ops)))
          refine hK2 _ (i + 1) ?_ (by omega) (by omega)
          (refine Le.of [] hB (by first | exact ⟨Nat.zero_le _, fun _ _ => Nat.zero_le _⟩ | (constructor <;> (try simp) <;> (try omega))) ?_ ?_ <;> (repeat' (first | exact leSl_nil | exact leHp_nil | refine leSl_cons (by simp (disch := omega) only [go_sem, ↓reduceIte, zn1]; rfl) ?_ ?_ | refine leHp_cons (by simp (disch := omega) only [go_sem, ↓reduceIte]; rfl) ?_ ?_ | exact VLe.junk _ | exact VLe.refl rfl | exact VLe.nil_sl _ _ _ | exact VLe.int (by first | rfl | omega | (dsimp only; omega)) | exact VLe.bool rfl | exact VLe.sl rfl (by first | rfl | omega | (dsimp only; omega) | (simp; done)) | exact VLe.cap rfl (by first | rfl | omega | (dsimp only; omega) | (simp; done)) | exact VLe.im rfl rfl | exact HLe.new rfl | exact HLe.same rfl (LLe.refl rfl) | refine HLe.same rfl ?_ | exact LLe.nil _ | exact LLe.refl rfl | refine LLe.cons ?_ ?_)))
    · have q1 := decide_eq_false (p := (i : Int) < (M.length : Int)) (by omega)
      (repeat (first | refine DO.nil (by kernel_rfl) ?_ | (with_reducible first | apply oz1 | apply oz2 | apply oz3 | apply oz4 | apply oz5 | apply oz6 | apply oz7 | apply oz8 | apply oz9 | apply ozb | apply ozc | apply oze | apply ozf | apply ozg | apply ozh | apply ozi | apply ozj | apply ozk | refine ozd (by decide) ?_) | ((first | apply SO.call | apply DO.call); (iterate 3 (focus (simp (disch := omega) only [go_sem, ↓reduceIte, zn1, zn2, zn3, zn4, zn5, zn6, reduceCtorEq, zn7, zi1, zi2, if_pos, if_neg, bne_self_eq_false, beq_self_eq_true, q1] <;> rfl))); (first | apply SCall.ofX | apply DCall.ofX); (focus (first | assumption)); (focus (simp (disch := omega) only [go_sem, ↓reduceIte, zn1, zn2, zn3, zn4, zn5, zn6, reduceCtorEq, zn7, zi1, zi2, if_pos, if_neg, bne_self_eq_false, beq_self_eq_true, q1] <;> rfl))) | ((with_reducible first | apply SC.condB | apply SC.region | apply SO.run | apply DO.run); (focus (simp (disch := omega) only [go_sem, ↓reduceIte, zn1, q1] <;> rfl)); (first | refine pickT ?_ | refine pickF ?_ | fail_if_success with_reducible refine pickA ?_)) | ((with_reducible refine SC.draw Tab.mixed ?_ ?_); (focus (first | rfl | simp (disch := omega) only [go_sem, ↓reduceIte, zn1, zn2, zn3, zn4, zn5, zn6, reduceCtorEq, zn7, zi1, zi2, if_pos, if_neg, bne_self_eq_false, beq_self_eq_true, q1]))) | (with_reducible apply SC.ops)))
      exact retQ_ret Try.results33 (by simp (disch := omega) only [go_sem, ↓reduceIte] <;> rfl) (by simp (disch := omega) only [go_sem] <;> rfl) rfl
set_option maxHeartbeats 4000000 in
theorem isameV_s {w K : Nat} {r : List Int} (hl : r.length = w) (hf : ∀ x ∈ r, Fits K x) (hK : K ≤ 1000000) (hw : w ≤ 1000000) : Spec Try.prog 40 [.im (ivR r) w, .im (ivR r) w] (.sc (.bool true)) := by
  have glr := ivR_len r
  refine Spec.run Try.func40 rfl Try.ntmps40 (by simp) (by simp (disch := omega) only [go_sem, zn4]; rfl) fun B hB => ?_
  (repeat (first | refine DO.nil (by kernel_rfl) ?_ | (with_reducible first | apply oz1 | apply oz2 | apply oz3 | apply oz4 | apply oz5 | apply oz6 | apply oz7 | apply oz8 | apply oz9 | apply ozb | apply ozc | apply oze | apply ozf | apply ozg | apply ozh | apply ozi | apply ozj | apply ozk | refine ozd (by decide) ?_) | ((first | apply SO.call | apply DO.call); (iterate 3 (focus (simp (disch := omega) only [go_sem, ↓reduceIte, zn1, zn2, zn3, zn4, zn5, zn6, reduceCtorEq, zn7, zi1, zi2, if_pos, if_neg, bne_self_eq_false, beq_self_eq_true] <;> rfl))); (first | apply SCall.ofX | apply DCall.ofX); (focus (first | assumption)); (focus (simp (disch := omega) only [go_sem, ↓reduceIte, zn1, zn2, zn3, zn4, zn5, zn6, reduceCtorEq, zn7, zi1, zi2, if_pos, if_neg, bne_self_eq_false, beq_self_eq_true] <;> rfl))) | ((with_reducible first | apply SC.condB | apply SC.region | apply SO.run | apply DO.run); (focus (simp (disch := omega) only [go_sem, ↓reduceIte, zn1, reduceCtorEq, bne_self_eq_false] <;> rfl)); (first | refine pickT ?_ | refine pickF ?_ | fail_if_success with_reducible refine pickA ?_)) | ((with_reducible refine SC.draw Tab.mixed ?_ ?_); (focus (first | rfl | simp (disch := omega) only [go_sem, ↓reduceIte, zn1, zn2, zn3, zn4, zn5, zn6, reduceCtorEq, zn7, zi1, zi2, if_pos, if_neg, bne_self_eq_false, beq_self_eq_true]))) | (with_reducible apply SC.ops)))
  refine SC.loop (fun t : Nat => ⟨[(0, .im (ivR r) w), (1, .im (ivR r) w), (5, .sc (.int .i64 t))], [], 0, 27⟩) (fun t => t ≤ w) (fun t => w - t) 0 ?_ ?_ ?_
  · (refine Le.of [] hB (by first | exact ⟨Nat.zero_le _, fun _ _ => Nat.zero_le _⟩ | (constructor <;> (try simp) <;> (try omega))) ?_ ?_ <;> (repeat' (first | exact leSl_nil | exact leHp_nil | refine leSl_cons (by simp (disch := omega) only [go_sem, ↓reduceIte, zn1, reduceCtorEq]; rfl) ?_ ?_ | refine leHp_cons (by simp (disch := omega) only [go_sem, ↓reduceIte, zn1, zn2, zn3, zn4, zn5, zn6, reduceCtorEq, zn7, zi1, zi2, if_pos, if_neg]; rfl) ?_ ?_ | exact VLe.junk _ | exact VLe.refl rfl | exact VLe.nil_sl _ _ _ | exact VLe.int (by first | rfl | omega | (dsimp only; omega)) | exact VLe.bool rfl | exact VLe.sl rfl (by first | rfl | omega | (dsimp only; omega) | (simp; done)) | exact VLe.cap rfl (by first | rfl | omega | (dsimp only; omega) | (simp; done)) | exact VLe.im rfl rfl | exact HLe.new rfl | exact HLe.same rfl (LLe.refl rfl) | refine HLe.same rfl ?_ | exact LLe.nil _ | exact LLe.refl rfl | refine LLe.cons ?_ ?_)))
  · exact Nat.zero_le _
  · intro t ht K3 hK3
    by_cases hc2 : t < w
    · have q2 := decide_eq_true (p := (t : Int) < (w : Int)) (by omega)
      have hx := hf _ (getD_mem (d := 0) (l := r) (i := t) (by omega))
      have hs := fits_len hx
      have c1 := same_i (r.getD t 0) (r.getD t 0) (by unfold Short; omega) (by unfold Short; omega)
      rw [decide_eq_true rfl] at c1
      have gd := ivR_drop (l := r) (i := t) (by omega)
      have g2 : t * 2 < (ivR r).length := by omega
      generalize (ivR r).drop ((t + 1) * 2) = D at *
      generalize ivR r = A at *
      generalize r.getD t 0 = x at *
      unfold iv sv at c1
      unfold ivC sv at gd
      simp only [List.cons_append, List.nil_append] at gd
      (repeat (first | refine DO.nil (by kernel_rfl) ?_ | (with_reducible first | apply oz1 | apply oz2 | apply oz3 | apply oz4 | apply oz5 | apply oz6 | apply oz7 | apply oz8 | apply oz9 | apply ozb | apply ozc | apply oze | apply ozf | apply ozg | apply ozh | apply ozi | apply ozj | apply ozk | refine ozd (by decide) ?_) | ((first | apply SO.call | apply DO.call); (iterate 3 (focus (simp (disch := omega) only [go_sem, ↓reduceIte, zn1] <;> rfl))); (first | apply SCall.ofX | apply DCall.ofX); (focus (first | assumption)); (focus (simp (disch := omega) only [go_sem] <;> rfl))) | ((with_reducible first | apply SC.condB | apply SC.region | apply SO.run | apply DO.run); (focus (simp (disch := omega) only [go_sem, ↓reduceIte, zn1, zn2, zn3, reduceCtorEq, if_pos, q2, gd, g2] <;> rfl)); (first | refine pickT ?_ | refine pickF ?_ | fail_if_success with_reducible refine pickA ?_)) | ((with_reducible refine SC.draw Tab.mixed ?_ ?_); (focus (first | rfl | simp (disch := omega) only [go_sem, ↓reduceIte, zn1, zn2, zn3, zn4, zn5, zn6, reduceCtorEq, zn7, zi1, zi2, if_pos, if_neg, bne_self_eq_false, beq_self_eq_true, q2, gd, g2]))) | (with_reducible apply SC.ops)))
      refine hK3 _ (t + 1) ?_ (by omega) (by omega)
      (refine Le.of [] hB (by first | exact ⟨Nat.zero_le _, fun _ _ => Nat.zero_le _⟩ | (constructor <;> (try simp) <;> (try omega))) ?_ ?_ <;> (repeat' (first | exact leSl_nil | exact leHp_nil | refine leSl_cons (by simp (disch := omega) only [go_sem, ↓reduceIte, zn1, reduceCtorEq]; rfl) ?_ ?_ | refine leHp_cons (by simp (disch := omega) only [go_sem, ↓reduceIte, zn1, zn2, zn3, zn4, zn5, zn6, reduceCtorEq, zn7, zi1, zi2, if_pos, if_neg]; rfl) ?_ ?_ | exact VLe.junk _ | exact VLe.refl rfl | exact VLe.nil_sl _ _ _ | exact VLe.int (by first | rfl | omega | (dsimp only; omega)) | exact VLe.bool rfl | exact VLe.sl rfl (by first | rfl | omega | (dsimp only; omega) | (simp; done)) | exact VLe.cap rfl (by first | rfl | omega | (dsimp only; omega) | (simp; done)) | exact VLe.im rfl rfl | exact HLe.new rfl | exact HLe.same rfl (LLe.refl rfl) | refine HLe.same rfl ?_ | exact LLe.nil _ | exact LLe.refl rfl | refine LLe.cons ?_ ?_)))
    · have q2 := decide_eq_false (p := (t : Int) < (w : Int)) (by omega)
      (repeat (first | refine DO.nil (by kernel_rfl) ?_ | (with_reducible first | apply oz1 | apply oz2 | apply oz3 | apply oz4 | apply oz5 | apply oz6 | apply oz7 | apply oz8 | apply oz9 | apply ozb | apply ozc | apply oze | apply ozf | apply ozg | apply ozh | apply ozi | apply ozj | apply ozk | refine ozd (by decide) ?_) | ((first | apply SO.call | apply DO.call); (iterate 3 (focus (simp (disch := omega) only [go_sem, ↓reduceIte, zn1, zn2, zn3, zn4, zn5, zn6, reduceCtorEq, zn7, zi1, zi2, if_pos, if_neg, bne_self_eq_false, beq_self_eq_true, q2] <;> rfl))); (first | apply SCall.ofX | apply DCall.ofX); (focus (first | assumption)); (focus (simp (disch := omega) only [go_sem, ↓reduceIte, zn1, zn2, zn3, zn4, zn5, zn6, reduceCtorEq, zn7, zi1, zi2, if_pos, if_neg, bne_self_eq_false, beq_self_eq_true, q2] <;> rfl))) | ((with_reducible first | apply SC.condB | apply SC.region | apply SO.run | apply DO.run); (focus (simp (disch := omega) only [go_sem, ↓reduceIte, zn1, reduceCtorEq, q2] <;> rfl)); (first | refine pickT ?_ | refine pickF ?_ | fail_if_success with_reducible refine pickA ?_)) | ((with_reducible refine SC.draw Tab.mixed ?_ ?_); (focus (first | rfl | simp (disch := omega) only [go_sem, ↓reduceIte, zn1, zn2, zn3, zn4, zn5, zn6, reduceCtorEq, zn7, zi1, zi2, if_pos, if_neg, bne_self_eq_false, beq_self_eq_true, q2]))) | (with_reducible apply SC.ops)))
      exact retQ_ret Try.results40 (by simp (disch := omega) only [go_sem, ↓reduceIte] <;> rfl) (by simp (disch := omega) only [go_sem] <;> rfl) rfl
set_option maxHeartbeats 4000000 in
set_option maxRecDepth 4000 in
theorem isame_s {h w K : Nat} {M : List (List Int)} (hM : MI h w K M) (hK : K ≤ 1000000) (hn : h ≤ 1000000) (hw : w ≤ 1000000) : Spec Try.prog 15 [mat w M, mat w M] (.sc (.bool true)) := by
  have hl := hM.len
  have gl := imI_len w M
  unfold mat
  refine Spec.run Try.func15 rfl Try.ntmps15 (by simp) (by simp (disch := omega) only [go_sem, zn4]; rfl) fun B hB => ?_
  (repeat (first | refine DO.nil (by kernel_rfl) ?_ | (with_reducible first | apply oz1 | apply oz2 | apply oz3 | apply oz4 | apply oz5 | apply oz6 | apply oz7 | apply oz8 | apply oz9 | apply ozb | apply ozc | apply oze | apply ozf | apply ozg | apply ozh | apply ozi | apply ozj | apply ozk | refine ozd (by decide) ?_) | ((first | apply SO.call | apply DO.call); (iterate 3 (focus (simp (disch := omega) only [go_sem, ↓reduceIte, zn1, zn2, zn3, zn4, zn5, zn6, reduceCtorEq, zn7, zi1, zi2, if_pos, if_neg, bne_self_eq_false, beq_self_eq_true, gl] <;> rfl))); (first | apply SCall.ofX | apply DCall.ofX); (focus (first | assumption)); (focus (simp (disch := omega) only [go_sem, ↓reduceIte, zn1, zn2, zn3, zn4, zn5, zn6, reduceCtorEq, zn7, zi1, zi2, if_pos, if_neg, bne_self_eq_false, beq_self_eq_true, gl] <;> rfl))) | ((with_reducible first | apply SC.condB | apply SC.region | apply SO.run | apply DO.run); (focus (simp (disch := omega) only [go_sem, ↓reduceIte, zn1, zn4, reduceCtorEq, bne_self_eq_false, beq_self_eq_true] <;> rfl)); (first | refine pickT ?_ | refine pickF ?_ | fail_if_success with_reducible refine pickA ?_)) | ((with_reducible refine SC.draw Tab.mixed ?_ ?_); (focus (first | rfl | simp (disch := omega) only [go_sem, ↓reduceIte, zn1, zn2, zn3, zn4, zn5, zn6, reduceCtorEq, zn7, zi1, zi2, if_pos, if_neg, bne_self_eq_false, beq_self_eq_true, gl]))) | (with_reducible apply SC.ops)))
  refine SC.loop (fun i : Nat => ⟨[(2, .pt 0 0), (3, .pt 1 0), (5, .sc (.int .i64 i))], [(1, ⟨29, [.sc (.int .i64 M.length), .sc (.int .i64 w), .im (imR w (rI M)) M.length], false⟩), (0, ⟨29, [.sc (.int .i64 M.length), .sc (.int .i64 w), .im (imR w (rI M)) M.length], false⟩)], 2, 46⟩)
    (fun i => i ≤ h) (fun i => h - i) 0 ?_ ?_ ?_
  · (refine Le.of [] hB (by first | exact ⟨Nat.zero_le _, fun _ _ => Nat.zero_le _⟩ | (constructor <;> (try simp) <;> (try omega))) ?_ ?_ <;> (repeat' (first | exact leSl_nil | exact leHp_nil | refine leSl_cons (by simp (disch := omega) only [go_sem, ↓reduceIte, zn1]; rfl) ?_ ?_ | refine leHp_cons (by simp (disch := omega) only [go_sem, ↓reduceIte, reduceCtorEq]; rfl) ?_ ?_ | exact VLe.junk _ | exact VLe.refl rfl | exact VLe.nil_sl _ _ _ | exact VLe.int (by first | rfl | omega | (dsimp only; omega)) | exact VLe.bool rfl | exact VLe.sl rfl (by first | rfl | omega | (dsimp only; omega) | (simp; done)) | exact VLe.cap rfl (by first | rfl | omega | (dsimp only; omega) | (simp; done)) | exact VLe.im rfl rfl | exact HLe.new rfl | exact HLe.same rfl (LLe.refl rfl) | refine HLe.same rfl ?_ | exact LLe.nil _ | exact LLe.refl rfl | refine LLe.cons ?_ ?_)))
  · exact Nat.zero_le _
  · intro i hi K2 hK2
    by_cases hc : i < h
    · have q1 := decide_eq_true (p := (i : Int) < (M.length : Int)) (by omega)
      have g1 := imI_get (w := w) (M := M) (i := i) (by omega)
      have hr := hM.get hc
      have c1 := isameV_s hr.1 hr.2 hK hw
      (repeat (first | refine DO.nil (by kernel_rfl) ?_ | (with_reducible first | apply oz1 | apply oz2 | apply oz3 | apply oz4 | apply oz5 | apply oz6 | apply oz7 | apply oz8 | apply oz9 | apply ozb | apply ozc | apply oze | apply ozf | apply ozg | apply ozh | apply ozi | apply ozj | apply ozk | refine ozd (by decide) ?_) | ((first | apply SO.call | apply DO.call); (iterate 3 (focus (simp (disch := omega) only [go_sem, ↓reduceIte, zn1] <;> rfl))); (first | apply SCall.ofX | apply DCall.ofX); (focus (first | assumption)); (focus (simp (disch := omega) only [go_sem] <;> rfl))) | ((with_reducible first | apply SC.condB | apply SC.region | apply SO.run | apply DO.run); (focus (simp (disch := omega) only [go_sem, ↓reduceIte, zn1, zn2, reduceCtorEq, if_pos, q1, g1, gl, List.getElem?_drop] <;> rfl)); (first | refine pickT ?_ | refine pickF ?_ | fail_if_success with_reducible refine pickA ?_)) | ((with_reducible refine SC.draw Tab.mixed ?_ ?_); (focus (first | rfl | simp (disch := omega) only [go_sem, ↓reduceIte, zn1, zn2, zn3, zn4, zn5, zn6, reduceCtorEq, zn7, zi1, zi2, if_pos, if_neg, bne_self_eq_false, beq_self_eq_true, q1, g1, gl, List.getElem?_drop]))) | (with_reducible apply SC.ops)))
      refine hK2 _ (i + 1) ?_ (by omega) (by omega)
      (refine Le.of [] hB (by first | exact ⟨Nat.zero_le _, fun _ _ => Nat.zero_le _⟩ | (constructor <;> (try simp) <;> (try omega))) ?_ ?_ <;> (repeat' (first | exact leSl_nil | exact leHp_nil | refine leSl_cons (by simp (disch := omega) only [go_sem, ↓reduceIte, zn1]; rfl) ?_ ?_ | refine leHp_cons (by simp (disch := omega) only [go_sem, ↓reduceIte, reduceCtorEq]; rfl) ?_ ?_ | exact VLe.junk _ | exact VLe.refl rfl | exact VLe.nil_sl _ _ _ | exact VLe.int (by first | rfl | omega | (dsimp only; omega)) | exact VLe.bool rfl | exact VLe.sl rfl (by first | rfl | omega | (dsimp only; omega) | (simp; done)) | exact VLe.cap rfl (by first | rfl | omega | (dsimp only; omega) | (simp; done)) | exact VLe.im rfl rfl | exact HLe.new rfl | exact HLe.same rfl (LLe.refl rfl) | refine HLe.same rfl ?_ | exact LLe.nil _ | exact LLe.refl rfl | refine LLe.cons ?_ ?_)))
    · have q1 := decide_eq_false (p := (i : Int) < (M.length : Int)) (by omega)
      (repeat (first | refine DO.nil (by kernel_rfl) ?_ | (with_reducible first | apply oz1 | apply oz2 | apply oz3 | apply oz4 | apply oz5 | apply oz6 | apply oz7 | apply oz8 | apply oz9 | apply ozb | apply ozc | apply oze | apply ozf | apply ozg | apply ozh | apply ozi | apply ozj | apply ozk | refine ozd (by decide) ?_) | ((first | apply SO.call | apply DO.call); (iterate 3 (focus (simp (disch := omega) only [go_sem, ↓reduceIte, zn1, zn2, zn3, zn4, zn5, zn6, reduceCtorEq, zn7, zi1, zi2, if_pos, if_neg, bne_self_eq_false, beq_self_eq_true, q1] <;> rfl))); (first | apply SCall.ofX | apply DCall.ofX); (focus (first | assumption)); (focus (simp (disch := omega) only [go_sem, ↓reduceIte, zn1, zn2, zn3, zn4, zn5, zn6, reduceCtorEq, zn7, zi1, zi2, if_pos, if_neg, bne_self_eq_false, beq_self_eq_true, q1] <;> rfl))) | ((with_reducible first | apply SC.condB | apply SC.region | apply SO.run | apply DO.run); (focus (simp (disch := omega) only [go_sem, ↓reduceIte, zn1, reduceCtorEq, q1] <;> rfl)); (first | refine pickT ?_ | refine pickF ?_ | fail_if_success with_reducible refine pickA ?_)) | ((with_reducible refine SC.draw Tab.mixed ?_ ?_); (focus (first | rfl | simp (disch := omega) only [go_sem, ↓reduceIte, zn1, zn2, zn3, zn4, zn5, zn6, reduceCtorEq, zn7, zi1, zi2, if_pos, if_neg, bne_self_eq_false, beq_self_eq_true, q1]))) | (with_reducible apply SC.ops)))
      exact retQ_ret Try.results15 (by simp (disch := omega) only [go_sem, ↓reduceIte] <;> rfl) (by simp (disch := omega) only [go_sem] <;> rfl) rfl
end Go.Proofs.Ytfhcmibgpddggaa
namespace Go.Proofs.Ytfhcmibgpddggaa
open Go.RowKit
section
variable {P : Program} {B : Base}
theorem hasId_some : ∀ {l : List (Nat × Blk)} {id : Nat}, hasId l id = true → ∃ k, hget l id = some k := by
  intro l id
  induction l with
  | nil => intro h; cases h
  | cons p r ih =>
    intro h
    simp only [hasId, Bool.or_eq_true, decide_eq_true_eq] at h
    by_cases e : id = p.1
    · exact ⟨p.2, by simp [hget, e]⟩
    · obtain ⟨k, hk⟩ := ih (h.resolve_left e)
      exact ⟨k, by simp [hget, e, hk]⟩
theorem SInlQ.part {ops : Array Oper} {l : List Oper} {cs : List Code} {Q : Exit → SS → Prop} {f : Nat} {ys : List V} {d : Option Nat} (pre : List (Nat × Blk)) {hpS : List (Nat × Blk)} {nx nt : Nat} {sl : List (Nat × V)} {C : V → List (Nat × Blk) → Nat → Prop} (p : Nat → Prop) (hI : InlQ P f ys hpS nx C) (hm : ∀ id k, hget pre id = some k → ¬ p id) (hS : ∀ id k, hget hpS id = some k → p id)
    (hC : ∀ x hp' nx', C x hp' nx' → Only p x ∧ OnlyH p hp' ∧ ∀ id k, hget hp' id = some k → p id) (k : ∀ x hp' nx', C x hp' nx' → SO P B ops l cs Q ⟨putS sl d x, pre ++ hp', nx', nt⟩) : SInlQ P B f ys d ops l cs Q ⟨sl, pre ++ hpS, nx, nt⟩ := by
  have hsub : ∀ id k, hget hpS id = some k → hget (pre ++ hpS) id = some k := by
    intro id q hq
    rw [hget_app]
    cases e : hget pre id with
    | none => exact hq
    | some q' => exact absurd (hS id q hq) (hm id q' e)
  have hrest : ∀ i, p i → hasId (restH (pre ++ hpS) hpS) i = false := by
    intro i hi
    rw [hasId_rest]
    cases e : hasId hpS i with
    | true => simp
    | false =>
      have h1 : hasId pre i = false := by
        cases h : hasId pre i with
        | false => rfl
        | true => obtain ⟨q, hq⟩ := hasId_some h; exact absurd hi (hm i q hq)
      have : hasId (pre ++ hpS) i = false := by
        have happ : ∀ (a b : List (Nat × Blk)) (i : Nat), hasId (a ++ b) i = (hasId a i || hasId b i) := by
          intro a b i
          induction a with
          | nil => simp [hasId]
          | cons p r ih => simp [hasId, ih, Bool.or_assoc]
        rw [happ, h1, e]; rfl
      rw [this]; rfl
  refine ⟨hpS, C, hsub, hI, fun x hp' nx' h => ?_⟩
  obtain ⟨h1, h2, h3⟩ := hC x hp' nx' h
  refine ⟨h1.mono hrest, h2.mono hrest, SO.weak (Le.less (fun id q hq => ?_) (Nat.le_refl _)) (k x hp' nx' h)⟩
  rw [hget_app] at hq ⊢
  cases e : hget pre id with
  | some q' =>
    rw [e] at hq
    cases hq
    have e2 : hget hp' id = none := by
      cases e3 : hget hp' id with
      | none => rfl
      | some q' => exact absurd (h3 id q' e3) (hm id _ e)
    rw [e2]
    simp only
    rw [hget_rest, if_neg, hget_app, e]
    intro hh
    obtain ⟨q', hq'⟩ := hasId_some hh
    exact absurd (hS id q' hq') (hm id _ e)
  | none =>
    rw [e] at hq
    simp only at hq
    rw [hq]
end
theorem rowsI_new {w nx : Nat} {M : List (List Int)} {x : V} {hp' : List (Nat × Blk)} {nx' : Nat} (h : RowsI w M nx x hp' nx') : Only (fun i => nx ≤ i) x ∧ OnlyH (fun i => nx ≤ i) hp' ∧ ∀ id k, hget hp' id = some k → nx ≤ id := by
  obtain ⟨o, ids, hR, rfl, rfl⟩ := h
  refine ⟨.sl hR.o1.1, ⟨fun y hy => ?_, OnlyH.rows (rI_clo M)⟩, fun id k hk => ?_⟩
  · obtain ⟨i, hi, rfl⟩ := List.mem_map.1 hy
    exact .sl (hR.lt i hi).1
  · simp only [hget] at hk
    split at hk
    · rename_i e; rw [e]; exact hR.o1.1
    · obtain ⟨q, q1, _, q3, _⟩ := rows_inv hk
      rw [← q3]; exact (hR.lt _ (getD_mem' q1)).1
def inR (o : Nat) (ids : List Nat) (i : Nat) : Prop := i = o ∨ i ∈ ids
theorem inR_rows {o : Nat} {b : Blk} {tr : TypeId} {ids0 ids : List Nat} {rs : List (List V)} (hs : ∀ i ∈ ids, i ∈ ids0) : ∀ id k, hget ((o, b) :: rowsH tr ids rs) id = some k → inR o ids0 id := by
  intro id k hk
  simp only [hget] at hk
  split at hk
  · exact .inl ‹_›
  · obtain ⟨q, q1, q2, q3, rfl⟩ := rows_inv hk
    rw [← q3]; exact .inr (hs _ (getD_mem' q1))
theorem actQ_part {w h o nx : Nat} {ids0 : List Nat} {M : List (List Int)} {x : V} {hp' : List (Nat × Blk)} {nx' : Nat} (hq : ActQ w h o ids0 M nx x hp' nx') : Only (inR o ids0) x ∧ OnlyH (inR o ids0) hp' ∧ ∀ id k, hget hp' id = some k → inR o ids0 id := by
  obtain ⟨ids', hI, rfl, rfl, rfl⟩ := hq
  refine ⟨.tu (fun _ h => by cases h), ⟨fun y hy => ?_, OnlyH.rows (rI_clo M)⟩, inR_rows hI.sub⟩
  obtain ⟨i, hi, rfl⟩ := List.mem_map.1 hy
  exact .sl (.inr (hI.sub i hi))
def pfn : Nat → Nat
  | 1 => 61
  | 2 => 62
  | _ => 63
def perfs : List V := [.sc .nilFunc, .sc (.func (.func 61) #[] #[]), .sc (.func (.func 62) #[] #[]), .sc (.func (.func 63) #[] #[])]
theorem perfs_s : Spec Try.prog 35 [] (.ag perfs) := by
  unfold perfs
  refine Spec.run Try.func35 rfl Try.ntmps35 (by simp) (by simp (disch := omega) only [go_sem]; rfl) fun B hB => ?_
  (repeat (first | refine DO.nilF (fun i => i + 1 - nx) (by simp (disch := omega) only [go_sem, ↓reduceIte, zn1, zn2, zn3, zn4, zn5, zn6, reduceCtorEq, zn7, zi1, zi2, if_pos, if_neg, List.map_cons, List.map_nil, Option.map_some, Option.map_none, Nat.add_sub_cancel_left, Nat.sub_eq_zero_of_le, Nat.add_assoc, zn4] <;> rfl) (by kernel_rfl) ?_ | (with_reducible first | apply oz1 | apply oz2 | apply oz3 | apply oz4 | apply oz5 | apply oz6 | apply oz7 | apply oz8 | apply oz9 | apply ozb | apply ozc | apply oze | apply ozf | apply ozg | apply ozh | apply ozi | apply ozj | apply ozk | refine ozd (by decide) ?_) | ((first | apply SO.call | apply DO.call); (iterate 3 (focus (simp (disch := omega) only [go_sem, ↓reduceIte, zn1, zn2, zn3, zn4, zn5, zn6, reduceCtorEq, zn7, zi1, zi2, if_pos, if_neg] <;> rfl))); (first | apply SCall.ofX | apply DCall.ofX); (focus (first | assumption)); (focus (simp (disch := omega) only [go_sem, ↓reduceIte, zn1, zn2, zn3, zn4, zn5, zn6, reduceCtorEq, zn7, zi1, zi2, if_pos, if_neg] <;> rfl))) | ((with_reducible first | apply SC.condB | apply SC.region | apply SO.run | apply DO.run); (focus (simp (disch := omega) only [go_sem, ↓reduceIte, zn2, zn3, zn4, reduceCtorEq] <;> rfl)); (first | refine pickT ?_ | refine pickF ?_ | fail_if_success with_reducible refine pickA ?_)) | ((with_reducible refine SC.draw Tab.mixed ?_ ?_); (focus (first | rfl | simp (disch := omega) only [go_sem, ↓reduceIte, zn1, zn2, zn3, zn4, zn5, zn6, reduceCtorEq, zn7, zi1, zi2, if_pos, if_neg]))) | (with_reducible apply SC.ops)))
  exact retQ_ret Try.results35 (by simp (disch := omega) only [go_sem, ↓reduceIte, zn3, zn4, reduceCtorEq] <;> rfl) (by simp (disch := omega) only [go_sem] <;> rfl) rfl
theorem perf_s {h w K o nx : Nat} {M : List (List Int)} {ids0 ids : List Nat} (hM : MI h w K M) (hK : K ≤ 1000000) (hI : Ids o ids0 ids h nx) {op : OpL} (ho : OkOp h op) (hn : h ≤ 1000000) (hw : w ≤ 1000000) :
    InlQ Try.prog (pfn op.kd) [.sl o 0 h 1 none, .ag (opC op)] ((o, ⟨72, slR 2 w ids, false⟩) :: rowsH 54 ids (rI M)) nx (ActQ w h o ids0 (actO M op) nx) := by
  unfold actO
  rcases ho.c with ⟨e, hj, _, _⟩ | ⟨e, _, _⟩ | ⟨e, hj, hij⟩
  · rw [e, if_pos rfl]; exact perfS_s hM hI ho.i hj hn hw
  · rw [e, if_neg (by omega), if_pos rfl]; exact perfN_s hM hK hI ho.i hn hw
  · rw [e, if_neg (by omega), if_neg (by omega)]; exact perfA_s hM hK hI ho.i hj hij ho.k hn hw
end Go.Proofs.Ytfhcmibgpddggaa
namespace Go.Proofs.Ytfhcmibgpddggaa
open Go.RowKit
theorem actsO_drop {l : List OpL} {i : Nat} {M : List (List Int)} (h : i < l.length) : actsO M (l.drop i) = actsO (actO M (l.getD i ⟨0, 0, 0, 0⟩)) (l.drop (i + 1)) := by
  rw [List.drop_eq_getElem_cons h, actsO, List.getD_eq_getElem?_getD, List.getElem?_eq_getElem h]; rfl
theorem ivR_same {l : List Int} {i : Nat} (h : i < l.length) : setAll (ivR l) (i * 2) (ivC (l.getD i 0)) = ivR l := by
  rw [ivR_set _ h]
  congr 1
  rw [List.getD_eq_getElem?_getD, List.getElem?_eq_getElem h]
  exact List.set_getElem_self h
theorem pre2 {n m : Nat} {b c : Blk} (hb : b.cs.all clS = true) (hc : c.cs.all clS = true) : ∀ i k, hget [(n, b), (m, c)] i = some k → k.cs.all clS = true := fun i k h => by
  simp only [hget] at h
  split at h
  · cases h; exact hb
  · split at h
    · cases h; exact hc
    · cases h
theorem pre3 {n m q : Nat} {b c d : Blk} (hb : b.cs.all clS = true) (hc : c.cs.all clS = true) (hd : d.cs.all clS = true) : ∀ i k, hget [(n, b), (m, c), (q, d)] i = some k → k.cs.all clS = true := fun i k h => by
  simp only [hget] at h
  split at h
  · cases h; exact hb
  · split at h
    · cases h; exact hc
    · split at h
      · cases h; exact hd
      · cases h
set_option maxHeartbeats 8000000 in
set_option maxRecDepth 8000 in
theorem iapply_s {h w K : Nat} {M : List (List Int)} {l : List OpL} (hM : MI h w K M) (hl : ∀ o ∈ l, OkOp h o) (hK : K + 2 * l.length ≤ 100000) (hn : h ≤ 1000000) (hw : w ≤ 1000000) :
    Spec Try.prog 10 [.im (opsC l) l.length, mat w M] (.tu [mat w (actsO M l), .sc (.int .i64 0)]) := by
  have hml := hM.len
  have c1 := imValid_s hM (by omega) hn hw
  have c2 := ivalid_s hl hn (by omega)
  have c3 := icopied_s hM (nx := 2) hn hw
  have c4 := perfs_s
  have e0 : actsO M (l.drop 0) = actsO M l := rfl
  generalize hF : actsO M l = F at *
  unfold mat mI at *
  rw [hml] at c1 c3 ⊢
  unfold perfs at c4
  refine Spec.run Try.func10 rfl Try.ntmps10 (by simp) (by simp (disch := omega) only [go_sem, zn4]; rfl) fun B hB => ?_
  (repeat (first | refine DO.nilF (fun i => i + 1 - nx) (by simp (disch := omega) only [go_sem, ↓reduceIte, zn1, zn2, zn3, zn4, zn5, zn6, reduceCtorEq, zn7, zi1, zi2, if_pos, if_neg, List.map_cons, List.map_nil, Option.map_some, Option.map_none, Nat.add_sub_cancel_left, Nat.sub_eq_zero_of_le, Nat.add_assoc, zn4] <;> rfl) (by kernel_rfl) ?_ | (with_reducible first | apply oz1 | apply oz2 | apply oz3 | apply oz4 | apply oz5 | apply oz6 | apply oz7 | apply oz8 | apply oz9 | apply ozb | apply ozc | apply oze | apply ozf | apply ozg | apply ozh | apply ozi | apply ozj | apply ozk | refine ozd (by decide) ?_) | ((first | apply SO.call | apply DO.call); (iterate 3 (focus (simp (disch := omega) only [go_sem, ↓reduceIte, zn1] <;> rfl))); (first | apply SCall.ofX | apply DCall.ofX); (focus (first | assumption)); (focus (simp (disch := omega) only [go_sem] <;> rfl))) | ((with_reducible first | apply SC.condB | apply SC.region | apply SO.run | apply DO.run); (focus (simp (disch := omega) only [go_sem, ↓reduceIte, zn1, zn3, zn4, reduceCtorEq] <;> rfl)); (first | refine pickT ?_ | refine pickF ?_ | fail_if_success with_reducible refine pickA ?_)) | ((with_reducible refine SC.draw Tab.mixed ?_ ?_); (focus (first | rfl | simp (disch := omega) only [go_sem, ↓reduceIte, zn1, zn2, zn3, zn4, zn5, zn6, reduceCtorEq, zn7, zi1, zi2, if_pos, if_neg]))) | (with_reducible apply SC.ops)))
  refine SO.inlQ (by simp (disch := omega) only [go_sem] <;> rfl) Tab.go34 (by simp (disch := omega) only [go_sem, ↓reduceIte] <;> rfl) (by simp (disch := omega) only [go_sem] <;> rfl) (SInlQ.newR c3 ?_ ?_ ?_)
  · exact klc (by omega) (klc (by omega) kln)
  · exact fun x hp' nx' h => rowsI_new h
  rintro x hp' nx ⟨o, ids0, hR, rfl, rfl⟩
  have ho := hR.o1
  have hI0 : Ids o ids0 ids0 h nx := ⟨by rw [hR.len, hml], hR.nod, fun i h => h, fun i h => (hR.lt i h).2, hR.o1.2, hR.o2⟩
  rw [hml]
  (repeat (first | refine DO.nilF (fun i => i + 1 - nx) (by simp (disch := omega) only [go_sem, ↓reduceIte, zn1, zn2, zn3, zn4, zn5, zn6, reduceCtorEq, zn7, zi1, zi2, if_pos, if_neg, List.map_cons, List.map_nil, Option.map_some, Option.map_none, Nat.add_sub_cancel_left, Nat.sub_eq_zero_of_le, Nat.add_assoc, zn4] <;> rfl) (by kernel_rfl) ?_ | (with_reducible first | apply oz1 | apply oz2 | apply oz3 | apply oz4 | apply oz5 | apply oz6 | apply oz7 | apply oz8 | apply oz9 | apply ozb | apply ozc | apply oze | apply ozf | apply ozg | apply ozh | apply ozi | apply ozj | apply ozk | refine ozd (by decide) ?_) | ((first | apply SO.call | apply DO.call); (iterate 3 (focus (simp (disch := omega) only [go_sem] <;> rfl))); (first | apply SCall.ofX | apply DCall.ofX); (focus (first | assumption)); (focus (simp (disch := omega) only [go_sem] <;> rfl))) | ((with_reducible first | apply SC.condB | apply SC.region | apply SO.run | apply DO.run); (focus (simp (disch := omega) only [go_sem, ↓reduceIte, zn1, zn3, zn4, reduceCtorEq] <;> rfl)); (first | refine pickT ?_ | refine pickF ?_ | fail_if_success with_reducible refine pickA ?_)) | ((with_reducible refine SC.draw Tab.mixed ?_ ?_); (focus (first | rfl | simp (disch := omega) only [go_sem, ↓reduceIte, zn1, zn2, zn3, zn4, zn5, zn6, reduceCtorEq, zn7, zi1, zi2, if_pos, if_neg]))) | (with_reducible apply SC.ops)))
  refine SC.loop (fun x : Nat × List (List Int) × List Nat => ⟨[(3, .pt 0 0), (4, .pt 1 0), (6, .sl o 0 h 1 none), (7, .pt nx 0), (29, .im (opsC l) l.length), (30, .sc (.int .i64 l.length)), (31, .sc (.int .i64 x.1))], (nx, ⟨70, [.sc .nilFunc, .sc (.func (.func 61) #[] #[]), .sc (.func (.func 62) #[] #[]), .sc (.func (.func 63) #[] #[])], false⟩) :: (1, ⟨29, [.sc (.int .i64 0), .sc (.int .i64 0), .sc (.slice none 0 0)], false⟩) :: (0, ⟨29, [.sc (.int .i64 h), .sc (.int .i64 w), .im (imR w (rI M)) h], false⟩) :: (o, ⟨72, slR 2 w x.2.2, false⟩) :: rowsH 54 x.2.2 (rI x.2.1), nx + 1, 73⟩)
    (fun x => x.1 ≤ l.length ∧ MI h w (K + 2 * x.1) x.2.1 ∧ Ids o ids0 x.2.2 h nx ∧ actsO x.2.1 (l.drop x.1) = F) (fun x => l.length - x.1) (0, M, ids0) ?_ ?_ ?_
  · (refine Le.slots ?_ ?_ ?_ <;> (repeat' (first | (exact fun _ _ h => h) | exact Nat.le_refl _ | exact leSl_nil | refine leSl_cons (by simp (disch := omega) only [go_sem, ↓reduceIte, zn1] <;> rfl) ?_ ?_ | exact VLe.junk _ | exact VLe.refl rfl | exact VLe.nil_sl _ _ _ | exact VLe.int (by first | rfl | omega | (dsimp only; omega)) | exact VLe.bool rfl | exact VLe.sl rfl (by first | rfl | omega) | exact VLe.cap rfl (by first | rfl | omega) | exact VLe.im rfl rfl | omega | (refine fun id k h => ?_; simp only [hget] at h ⊢; (repeat' (split at h)) <;> first | (cases h; done) | (simp (disch := omega) only [if_pos, if_neg]; exact h)))))
  · exact ⟨Nat.zero_le _, hM, hI0, e0⟩
  · rintro ⟨i, A, ids⟩ ⟨hi, hA, hI, hF2⟩ K2 hK2
    simp only at hi hA hI hF2 ⊢
    by_cases hc : i < l.length
    · have q1 := decide_eq_true (p := (i : Int) < (l.length : Int)) (by omega)
      have g1 := opsC_drop hc
      have g2 : i * 5 < (opsC l).length := by rw [opsC_len]; omega
      have hok := hl _ (getD_mem (d := ⟨0, 0, 0, 0⟩) hc)
      rw [actsO_drop hc] at hF2
      have hA' := hA.act hok
      have c5 := perf_s hA (by omega) (hI.more (Nat.le_add_right nx 2)) hok hn hw
      have hnx2 : nx + 1 + 1 = nx + 2 := rfl
      generalize hop : l.getD i ⟨0, 0, 0, 0⟩ = op at *
      obtain ⟨kd, a, b, k⟩ := op
      generalize (opsC l).drop ((i + 1) * 5) = D at *
      unfold opC at g1 c5
      simp only [List.cons_append, List.nil_append] at g1 c5
      (repeat (first | refine DO.nilF (fun i => i + 1 - nx) (by simp (disch := omega) only [go_sem, ↓reduceIte, zn1, zn2, zn3, zn4, zn5, zn6, reduceCtorEq, zn7, zi1, zi2, if_pos, if_neg, List.map_cons, List.map_nil, Option.map_some, Option.map_none, Nat.add_sub_cancel_left, Nat.sub_eq_zero_of_le, Nat.add_assoc, zn4] <;> rfl) (by kernel_rfl) ?_ | (with_reducible refine SC.condB (by simp (disch := omega) only [go_sem, ↓reduceIte]; rfl) ?_; first | with_reducible refine pickT ?_ | with_reducible refine pickF ?_) | (with_reducible first | apply oz1 | apply oz2 | apply oz3 | apply oz4 | apply oz5 | apply oz6 | apply oz7 | apply oz8 | apply oz9 | apply ozb | apply ozc | apply oze | apply ozf | apply ozg | apply ozh | apply ozi | apply ozj | apply ozk | refine ozd (by decide) ?_) | ((with_reducible apply SC.region); (focus (simp (disch := omega) only [go_sem, ↓reduceIte, zn1, zn3, zn4, if_pos, q1, g1, g2]; rfl))) | (with_reducible refine SC.draw Tab.mixed rfl ?_; (repeat (refine DO.run (by simp (disch := omega) only [go_sem, ↓reduceIte, zn1, zn2, zn3, zn4, zn5, zn6, reduceCtorEq, zn7, zi1, zi2, if_pos, if_neg, q1, g1, g2]; rfl) ?_)); refine DO.nilF (fun i => i + 1 - nx) (by simp (disch := omega) only [go_sem, ↓reduceIte, zn1, zn2, zn3, zn4, zn5, zn6, reduceCtorEq, zn7, zi1, zi2, if_pos, if_neg, List.map_cons, List.map_nil, Option.map_some, Option.map_none, Nat.add_sub_cancel_left, Nat.sub_eq_zero_of_le, Nat.add_assoc, zn4] <;> rfl) (by kernel_rfl) ?_)))
      refine SC.drawT 6 (by simp only [List.take_succ_cons, List.take_zero]; rfl) (by simp only [List.drop_succ_cons, List.drop_zero]; rfl) Tab.mixed ?_ (by kernel_rfl) ?_
      · simp (disch := omega) only [go_sem, ↓reduceIte]
        intro id q hq
        repeat' (split at hq)
        all_goals first | omega | exact klr (n := nx + 1 + 1) (fun j hj => by have := hI.lt j hj; omega) id q hq
      obtain ⟨_, _, hcs⟩ := hok
      simp only at hcs
      have hkd : kd = 1 ∨ kd = 2 ∨ kd = 3 := by rcases hcs with ⟨e, _⟩ | ⟨e, _⟩ | ⟨e, _⟩ <;> omega
      clear hcs
      rcases hkd with rfl | rfl | rfl
      all_goals
        (repeat (first | refine DO.nilF (fun i => i + 1 - nx) (by simp (disch := omega) only [go_sem, zn4, List.map_cons, List.map_nil, Option.map_none, Nat.add_sub_cancel_left, Nat.add_assoc, zn4] <;> rfl) (by kernel_rfl) ?_ | (with_reducible first | apply oz1 | apply oz2 | apply oz3 | apply oz4 | apply oz5 | apply oz6 | apply oz7 | apply oz8 | apply oz9 | apply ozb | apply ozc | apply oze | apply ozf | apply ozg | apply ozh | apply ozi | apply ozj | apply ozk | refine ozd (by decide) ?_) | ((first | apply SO.call | apply DO.call); (iterate 3 (focus (simp (disch := omega) only [go_sem, ↓reduceIte, zn1, zn2, zn3, zn4, zn5, zn6, reduceCtorEq, zn7, zi1, zi2, if_pos, if_neg] <;> rfl))); (first | apply SCall.ofX | apply DCall.ofX); (focus (first | assumption)); (focus (simp (disch := omega) only [go_sem, ↓reduceIte, zn1, zn2, zn3, zn4, zn5, zn6, reduceCtorEq, zn7, zi1, zi2, if_pos, if_neg] <;> rfl))) | ((with_reducible first | apply SC.condB | apply SC.region | apply SO.run | apply DO.run); (focus (simp (disch := omega) only [go_sem, ↓reduceIte, zn1, zn3, zn4, reduceCtorEq, if_pos, if_neg] <;> rfl)); (first | refine pickT ?_ | refine pickF ?_ | fail_if_success with_reducible refine pickA ?_)) | ((with_reducible refine SC.draw Tab.mixed ?_ ?_); (focus (first | rfl | simp (disch := omega) only [go_sem, ↓reduceIte, zn1, zn2, zn3, zn4, zn5, zn6, reduceCtorEq, zn7, zi1, zi2, if_pos, if_neg]))) | (with_reducible apply SC.ops)))
        show SO _ _ _ _ _ _ _
        refine SO.inlQ (by simp (disch := omega) only [go_sem, ↓reduceIte, zn1] <;> rfl) (by rfl) (by simp (disch := omega) only [go_sem, ↓reduceIte, zn1] <;> rfl) (by simp (disch := omega) only [go_sem] <;> rfl) (SInlQ.part [(nx + 1, _), (nx, _), (1, _), (0, _)] (inR o ids0) c5 ?_ ?_ ?_ ?_)
        · refine fun id k hk => ?_
          have hnot : ∀ i, i < 2 ∨ nx ≤ i → ¬ inR o ids0 i := by
            rintro i hi' (e | e)
            · omega
            · have := hR.lt i e; omega
          simp only [hget] at hk
          refine hnot id ?_
          repeat' (first | (split at hk; first | omega | skip) | (cases hk; done))
        · exact inR_rows hI.sub
        · exact fun x hp' nx' h => actQ_part h
        rintro x hp' nx' ⟨ids', hI', rfl, rfl, rfl⟩
        (repeat (first | refine DO.nilF (fun i => i + 1 - nx) (by simp (disch := omega) only [go_sem, ↓reduceIte, zn1, zn2, zn3, zn4, zn5, zn6, reduceCtorEq, zn7, zi1, zi2, if_pos, if_neg, List.map_cons, List.map_nil, Option.map_some, Option.map_none, Nat.add_sub_cancel_left, Nat.sub_eq_zero_of_le, Nat.add_assoc, zn4] <;> rfl) (by kernel_rfl) ?_ | (with_reducible first | apply oz1 | apply oz2 | apply oz3 | apply oz4 | apply oz5 | apply oz6 | apply oz7 | apply oz8 | apply oz9 | apply ozb | apply ozc | apply oze | apply ozf | apply ozg | apply ozh | apply ozi | apply ozj | apply ozk | refine ozd (by decide) ?_) | ((first | apply SO.call | apply DO.call); (iterate 3 (focus (simp (disch := omega) only [go_sem, ↓reduceIte, zn1, zn2, zn3, zn4, zn5, zn6, reduceCtorEq, zn7, zi1, zi2, if_pos, if_neg] <;> rfl))); (first | apply SCall.ofX | apply DCall.ofX); (focus (first | assumption)); (focus (simp (disch := omega) only [go_sem, ↓reduceIte, zn1, zn2, zn3, zn4, zn5, zn6, reduceCtorEq, zn7, zi1, zi2, if_pos, if_neg] <;> rfl))) | ((with_reducible first | apply SC.condB | apply SC.region | apply SO.run | apply DO.run); (focus (simp (disch := omega) only [go_sem, ↓reduceIte, zn1] <;> rfl)); (first | refine pickT ?_ | refine pickF ?_ | fail_if_success with_reducible refine pickA ?_)) | ((with_reducible refine SC.draw Tab.mixed ?_ ?_); (focus (first | rfl | simp (disch := omega) only [go_sem, ↓reduceIte, zn1, zn2, zn3, zn4, zn5, zn6, reduceCtorEq, zn7, zi1, zi2, if_pos, if_neg]))) | (with_reducible apply SC.ops)))
        have hI2 : Ids o ids0 ids' h nx := ⟨hI'.len, hI'.nod, hI'.sub, fun i hi' => hI0.lt i (hI'.sub i hi'), hI0.o1, hI'.o2⟩
        refine hK2 _ (i + 1, _, ids') ?_ ⟨by simp only; omega, hA'.mono (by simp only; omega), hI2, hF2⟩ (by simp only; omega)
        refine Le.rowsDown [(nx, _), (1, _), (0, _)] (pre3 rfl rfl rfl) ⟨0, hB, Nat.zero_le _⟩ (by first | omega | (simp only; omega)) (fun c hc => by have := hI2.lt c hc; first | omega | (simp only; omega)) (rI_clo _) (fun id b hb => ?_) ?_
        · exact less_new (fun id b hb => hb) (fun id b hb => Nat.ne_of_lt (klc (Nat.lt_succ_self nx) (klc (show 1 < nx + 1 by omega) (klc (show 0 < nx + 1 by omega) (rows_lt (show o < nx + 1 by omega) fun c hc => Nat.lt_succ_of_lt (hI2.lt c hc)))) id b hb)) id b hb
        · (repeat' (first | exact trivial | refine mapSl_cons (by simp (disch := omega) only [go_sem, ↓reduceIte, zn1] <;> rfl) ?_ ?_ | exact VMap.junk _ | exact VMap.sc _ | exact VMap.clo rfl | exact VMap.sl rfl (by omega) | exact VMap.cap rfl (by omega) | exact VMap.pt rfl (by omega) | exact VMap.nil_sl _ _ _ | exact VMap.int (by first | rfl | omega | (dsimp only; omega))))
    · have q1 := decide_eq_false (p := (i : Int) < (l.length : Int)) (by omega)
      have hil : i = l.length := by omega
      have hAF : A = F := by rw [← hF2, hil, List.drop_length]; rfl
      subst hAF
      have hidl := hI.len
      have hal := hA.len
      have g1 := slR_len 2 w ids
      rw [hidl] at g1
      clear hK2 hF2 c1 c2 c3 c4 e0
      (repeat (first | refine DO.nilF (fun i => i + 1 - nx) (by simp (disch := omega) only [go_sem, ↓reduceIte, zn1, zn2, zn3, zn4, zn5, zn6, reduceCtorEq, zn7, zi1, zi2, if_pos, if_neg, List.map_cons, List.map_nil, Option.map_some, Option.map_none, Nat.add_sub_cancel_left, Nat.sub_eq_zero_of_le, Nat.add_assoc, zn4] <;> rfl) (by kernel_rfl) ?_ | (with_reducible refine SC.condB (by simp (disch := omega) only [go_sem, ↓reduceIte]; rfl) ?_; first | with_reducible refine pickT ?_ | with_reducible refine pickF ?_) | (with_reducible first | apply oz1 | apply oz2 | apply oz3 | apply oz4 | apply oz5 | apply oz6 | apply oz7 | apply oz8 | apply oz9 | apply ozb | apply ozc | apply oze | apply ozf | apply ozg | apply ozh | apply ozi | apply ozj | apply ozk | refine ozd (by decide) ?_) | ((with_reducible apply SC.region); (focus (simp (disch := omega) only [go_sem, ↓reduceIte, zn1, q1]; rfl))) | (with_reducible refine SC.draw Tab.mixed rfl ?_; (repeat (refine DO.run (by simp (disch := omega) only [go_sem, ↓reduceIte, zn1, zn2, zn3, zn4, zn5, zn6, reduceCtorEq, zn7, zi1, zi2, if_pos, if_neg, q1, g1]; rfl) ?_)); refine DO.nilF (fun i => i + 1 - nx) (by simp (disch := omega) only [go_sem, ↓reduceIte, zn1, zn2, zn3, zn4, zn5, zn6, reduceCtorEq, zn7, zi1, zi2, if_pos, if_neg, List.map_cons, List.map_nil, Option.map_some, Option.map_none, Nat.add_sub_cancel_left, Nat.sub_eq_zero_of_le, Nat.add_assoc, zn4] <;> rfl) (by kernel_rfl) ?_)))
      refine SC.loop (fun i : Nat => ⟨[(3, .pt 0 0), (4, .pt 1 0), (6, .sl o 0 h 1 none), (43, .sl o 0 h 1 none), (44, .sc (.int .i64 h)), (45, .sc (.int .i64 i))], (1, ⟨29, [.sc (.int .i64 0), .sc (.int .i64 0), .sc (.slice none 0 0)], false⟩) :: (0, ⟨29, [.sc (.int .i64 h), .sc (.int .i64 w), .im (imR w (rI M)) h], false⟩) :: (o, ⟨72, slR 2 w ids, false⟩) :: rowsH 54 ids (rI A), nx, 73⟩)
        (fun i => i ≤ h) (fun i => h - i) 0 ?_ ?_ ?_
      · refine Le.rowsDown [(1, _), (0, _)] (pre2 rfl rfl) ⟨0, hB, Nat.zero_le _⟩ ho.2 hI.lt (rI_clo _) (fun id b hb => ?_) ?_
        · exact less_new (fun id b hb => hb) (fun id b hb => Nat.ne_of_lt (klc (show 1 < nx by omega) (klc (show 0 < nx by omega) (rows_lt ho.2 hI.lt)) id b hb)) id b hb
        · (repeat' (first | exact trivial | refine mapSl_cons (by simp (disch := omega) only [go_sem, ↓reduceIte, zn1] <;> rfl) ?_ ?_ | exact VMap.junk _ | exact VMap.sc _ | exact VMap.clo rfl | exact VMap.sl rfl (by omega) | exact VMap.cap rfl (by omega) | exact VMap.pt rfl (by omega) | exact VMap.nil_sl _ _ _ | exact VMap.int (by first | rfl | omega | (dsimp only; omega))))
      · exact Nat.zero_le _
      · intro i hi K3 hK3
        by_cases hc2 : i < h
        · have q2 := decide_eq_true (p := (i : Int) < (h : Int)) (by omega)
          have gi := slR_get (z := 2) (m := w) (ids := ids) (k := i) (by omega)
          have gR := rows_get (ty := 54) (rs := rI A) (k := i) hI.nod (by omega) (by rw [rI_len]; omega)
          rw [rI_getD] at gR
          have hrs := rows_set (ty := 54) (rs := rI A) (k := i) (r := ivR (A.getD i [])) hI.nod (by omega) (by rw [rI_len]; omega)
          rw [rI_set, setI_self (by omega)] at hrs
          have hkl := klB_rows (ty := 54) (rs := rI A) (n := nx + 1) (fun j hj => by have := hI.lt j hj; omega)
          have hmem := getD_mem' (ids := ids) (k := i) (by omega)
          have hidk := hI.lt _ hmem
          have hidk2 := (hR.lt _ (hI.sub _ hmem)).1
          have hne : ids.getD i 0 ≠ o := fun e => hI.o2 (by rw [← e]; exact hmem)
          have hr := hA.get hc2
          have glr := ivR_len (A.getD i [])
          rw [hr.1] at glr
          have hgd := fun t (ht : t < w) => ivR_drop (l := A.getD i []) (i := t) (by omega)
          have hgs := fun t (ht : t < w) => ivR_same (l := A.getD i []) (i := t) (by omega)
          have hfx := fun t (ht : t < w) => hr.2 _ (getD_mem (d := 0) (l := A.getD i []) (i := t) (by omega))
          generalize hH : rowsH 54 ids (rI A) = H at *
          generalize A.getD i [] = r at *
          generalize ids.getD i 0 = idk at *
          (repeat (first | refine DO.nilF (fun i => i + 1 - nx) (by simp (disch := omega) only [go_sem, ↓reduceIte, zn1, zn2, zn3, zn4, zn5, zn6, reduceCtorEq, zn7, zi1, zi2, if_pos, if_neg, List.map_cons, List.map_nil, Option.map_some, Option.map_none, Nat.add_sub_cancel_left, Nat.sub_eq_zero_of_le, Nat.add_assoc, zn4] <;> rfl) (by kernel_rfl) ?_ | (with_reducible refine SC.condB (by simp (disch := omega) only [go_sem, ↓reduceIte]; rfl) ?_; first | with_reducible refine pickT ?_ | with_reducible refine pickF ?_) | (with_reducible first | apply oz1 | apply oz2 | apply oz3 | apply oz4 | apply oz5 | apply oz6 | apply oz7 | apply oz8 | apply oz9 | apply ozb | apply ozc | apply oze | apply ozf | apply ozg | apply ozh | apply ozi | apply ozj | apply ozk | refine ozd (by decide) ?_) | ((with_reducible apply SC.region); (focus (simp (disch := omega) only [go_sem, ↓reduceIte, zn1, if_pos, if_neg, q2, gi]; rfl))) | (with_reducible refine SC.draw Tab.mixed rfl ?_; (repeat (refine DO.run (by simp (disch := omega) only [go_sem, ↓reduceIte, zn1, zn2, zn3, zn4, zn5, zn6, reduceCtorEq, zn7, zi1, zi2, if_pos, if_neg, q2, gi, g1]; rfl) ?_)); refine DO.nilF (fun i => i + 1 - nx) (by simp (disch := omega) only [go_sem, ↓reduceIte, zn1, zn2, zn3, zn4, zn5, zn6, reduceCtorEq, zn7, zi1, zi2, if_pos, if_neg, List.map_cons, List.map_nil, Option.map_some, Option.map_none, Nat.add_sub_cancel_left, Nat.sub_eq_zero_of_le, Nat.add_assoc, zn4] <;> rfl) (by kernel_rfl) ?_)))
          refine SC.loop (fun t : Nat => ⟨[(3, .pt 0 0), (4, .pt 1 0), (6, .sl o 0 h 1 none), (43, .sl o 0 h 1 none), (44, .sc (.int .i64 h)), (45, .sc (.int .i64 i)), (11, .sl idk 0 w 2 none), (49, .sl idk 0 w 2 none), (50, .sc (.int .i64 w)), (51, .sc (.int .i64 t))], (1, ⟨29, [.sc (.int .i64 0), .sc (.int .i64 0), .sc (.slice none 0 0)], false⟩) :: (0, ⟨29, [.sc (.int .i64 h), .sc (.int .i64 w), .im (imR w (rI M)) h], false⟩) :: (o, ⟨72, slR 2 w ids, false⟩) :: H, nx, 73⟩)
            (fun t => t ≤ w) (fun t => w - t) 0 ?_ ?_ ?_
          · (refine Le.slots ?_ ?_ ?_ <;> (repeat' (first | (exact fun _ _ h => h) | exact Nat.le_refl _ | exact leSl_nil | refine leSl_cons (by simp (disch := omega) only [go_sem, ↓reduceIte, zn1] <;> rfl) ?_ ?_ | exact VLe.junk _ | exact VLe.refl rfl | exact VLe.nil_sl _ _ _ | exact VLe.int (by first | rfl | omega | (dsimp only; omega)) | exact VLe.bool rfl | exact VLe.sl rfl (by first | rfl | omega) | exact VLe.cap rfl (by first | rfl | omega) | exact VLe.im rfl rfl | omega | (refine fun id k h => ?_; simp only [hget] at h ⊢; (repeat' (split at h)) <;> first | (cases h; done) | (simp (disch := omega) only [if_pos, if_neg]; exact h)))))
          · exact Nat.zero_le _
          · intro t ht K4 hK4
            by_cases hc3 : t < w
            · have q3 := decide_eq_true (p := (t : Int) < (w : Int)) (by omega)
              have gd := hgd t hc3
              have gs := hgs t hc3
              have hlx := fits_len (hfx t hc3)
              have c6 := clone_s (lv (limbsOf (r.getD t 0).natAbs)) (List.all_eq_true.2 fun x hx => by obtain ⟨n, _, rfl⟩ := List.mem_map.1 hx; rfl) (List.all_eq_true.2 fun x hx => by obtain ⟨n, _, rfl⟩ := List.mem_map.1 hx; rfl) (by rw [lv_len]; omega)
              rw [lv_len] at c6
              generalize (ivR r).drop ((t + 1) * 2) = D at *
              generalize hRR : ivR r = RR at *
              generalize r.getD t 0 = x at *
              unfold ivC sv at gd gs
              simp only [List.cons_append, List.nil_append] at gd
              have g2 : t * 2 < RR.length := by omega
              (repeat (first | refine DO.nilF (fun i => i + 1 - nx) (by simp (disch := omega) only [go_sem, List.map_cons, List.map_nil, Option.map_some, Option.map_none, Nat.add_sub_cancel_left, Nat.sub_eq_zero_of_le] <;> rfl) (by kernel_rfl) ?_ | (with_reducible first | apply oz1 | apply oz2 | apply oz3 | apply oz4 | apply oz5 | apply oz6 | apply oz7 | apply oz8 | apply oz9 | apply ozb | apply ozc | apply oze | apply ozf | apply ozg | apply ozh | apply ozi | apply ozj | apply ozk | refine ozd (by decide) ?_) | ((first | apply SO.call | apply DO.call); (iterate 3 (focus (simp (disch := omega) only [go_sem, ↓reduceIte] <;> rfl))); (first | apply SCall.ofX | apply DCall.ofX); (focus (first | assumption)); (focus (simp (disch := omega) only [go_sem] <;> rfl))) | ((with_reducible first | apply SC.condB | apply SC.region | apply SO.run | apply DO.run); (focus (simp (disch := omega) only [go_sem, ↓reduceIte, zn1, zn3, zn4, reduceCtorEq, if_pos, if_neg, q3, gR, glr, gd, gs, hrs] <;> rfl)); (first | refine pickT ?_ | refine pickF ?_ | fail_if_success with_reducible refine pickA ?_)) | ((with_reducible refine SC.draw Tab.mixed ?_ ?_); (focus (first | rfl | simp (disch := omega) only [go_sem, ↓reduceIte, if_pos, hkl]))) | (with_reducible apply SC.ops)))
              refine hK4 _ (t + 1) ?_ (by omega) (by omega)
              rw [← hH]
              refine Le.rowsDown [(1, _), (0, _)] (pre2 rfl rfl) ⟨0, hB, Nat.zero_le _⟩ ho.2 hI.lt (rI_clo _) (fun id b hb => ?_) ?_
              · exact less_new (fun id b hb => hb) (fun id b hb => Nat.ne_of_lt (klc (show 1 < nx by omega) (klc (show 0 < nx by omega) (rows_lt ho.2 hI.lt)) id b hb)) id b hb
              · (repeat' (first | exact trivial | refine mapSl_cons (by simp (disch := omega) only [go_sem, ↓reduceIte, zn1] <;> rfl) ?_ ?_ | exact VMap.junk _ | exact VMap.sc _ | exact VMap.clo rfl | exact VMap.sl rfl (by omega) | exact VMap.cap rfl (by omega) | exact VMap.pt rfl (by omega) | exact VMap.nil_sl _ _ _ | exact VMap.int (by first | rfl | omega | (dsimp only; omega))))
            · have q3 := decide_eq_false (p := (t : Int) < (w : Int)) (by omega)
              (repeat (first | refine DO.nilF (fun i => i + 1 - nx) (by simp (disch := omega) only [go_sem, ↓reduceIte, zn1, zn2, zn3, zn4, zn5, zn6, reduceCtorEq, zn7, zi1, zi2, if_pos, if_neg, List.map_cons, List.map_nil, Option.map_some, Option.map_none, Nat.add_sub_cancel_left, Nat.sub_eq_zero_of_le, Nat.add_assoc, zn4] <;> rfl) (by kernel_rfl) ?_ | (with_reducible refine SC.condB (by simp (disch := omega) only [go_sem, ↓reduceIte]; rfl) ?_; first | with_reducible refine pickT ?_ | with_reducible refine pickF ?_) | (with_reducible first | apply oz1 | apply oz2 | apply oz3 | apply oz4 | apply oz5 | apply oz6 | apply oz7 | apply oz8 | apply oz9 | apply ozb | apply ozc | apply oze | apply ozf | apply ozg | apply ozh | apply ozi | apply ozj | apply ozk | refine ozd (by decide) ?_) | ((with_reducible apply SC.region); (focus (simp (disch := omega) only [go_sem, ↓reduceIte, zn1, q3]; rfl))) | (with_reducible refine SC.draw Tab.mixed rfl ?_; (repeat (refine DO.run (by simp (disch := omega) only [go_sem, ↓reduceIte, zn1, zn2, zn3, zn4, zn5, zn6, reduceCtorEq, zn7, zi1, zi2, if_pos, if_neg, q3]; rfl) ?_)); refine DO.nilF (fun i => i + 1 - nx) (by simp (disch := omega) only [go_sem, ↓reduceIte, zn1, zn2, zn3, zn4, zn5, zn6, reduceCtorEq, zn7, zi1, zi2, if_pos, if_neg, List.map_cons, List.map_nil, Option.map_some, Option.map_none, Nat.add_sub_cancel_left, Nat.sub_eq_zero_of_le, Nat.add_assoc, zn4] <;> rfl) (by kernel_rfl) ?_)))
              refine hK3 _ (i + 1) ?_ (by omega) (by omega)
              (refine Le.slots ?_ ?_ ?_ <;> (repeat' (first | (exact fun _ _ h => h) | exact Nat.le_refl _ | exact leSl_nil | refine leSl_cons (by simp (disch := omega) only [go_sem, ↓reduceIte, zn1] <;> rfl) ?_ ?_ | exact VLe.junk _ | exact VLe.refl rfl | exact VLe.nil_sl _ _ _ | exact VLe.int (by first | rfl | omega | (dsimp only; omega)) | exact VLe.bool rfl | exact VLe.sl rfl (by first | rfl | omega) | exact VLe.cap rfl (by first | rfl | omega) | exact VLe.im rfl rfl | omega | (refine fun id k h => ?_; simp only [hget] at h ⊢; (repeat' (split at h)) <;> first | (cases h; done) | (simp (disch := omega) only [if_pos, if_neg]; exact h)))))
        · have q2 := decide_eq_false (p := (i : Int) < (h : Int)) (by omega)
          have hAl := hA.len
          by_cases h0 : h = 0
          · have hids : ids = [] := List.eq_nil_of_length_eq_zero (by omega)
            have hAn : A = [] := List.eq_nil_of_length_eq_zero (by omega)
            subst hids; subst hAn; subst h0
            (repeat (first | refine DO.nilF (fun i => i + 1 - nx) (by simp (disch := omega) only [go_sem, ↓reduceIte, zn1, zn2, zn3, zn4, zn5, zn6, reduceCtorEq, zn7, zi1, zi2, if_pos, if_neg, List.map_cons, List.map_nil, Option.map_some, Option.map_none, Nat.add_sub_cancel_left, Nat.sub_eq_zero_of_le, Nat.add_assoc, zn4] <;> rfl) (by kernel_rfl) ?_ | (with_reducible refine SC.condB (by simp (disch := omega) only [go_sem, ↓reduceIte]; rfl) ?_; first | with_reducible refine pickT ?_ | with_reducible refine pickF ?_) | (with_reducible first | apply oz1 | apply oz2 | apply oz3 | apply oz4 | apply oz5 | apply oz6 | apply oz7 | apply oz8 | apply oz9 | apply ozb | apply ozc | apply oze | apply ozf | apply ozg | apply ozh | apply ozi | apply ozj | apply ozk | refine ozd (by decide) ?_) | ((with_reducible apply SC.region); (focus (simp (disch := omega) only [go_sem, ↓reduceIte, zn1, zn2, zn3, zn4, reduceCtorEq, q2]; rfl))) | (with_reducible refine SC.draw Tab.mixed rfl ?_; (repeat (refine DO.run (by simp (disch := omega) only [go_sem, ↓reduceIte, zn1, zn2, zn3, zn4, zn5, zn6, reduceCtorEq, zn7, zi1, zi2, if_pos, if_neg, q2]; rfl) ?_)); refine DO.nilF (fun i => i + 1 - nx) (by simp (disch := omega) only [go_sem, ↓reduceIte, zn1, zn2, zn3, zn4, zn5, zn6, reduceCtorEq, zn7, zi1, zi2, if_pos, if_neg, List.map_cons, List.map_nil, Option.map_some, Option.map_none, Nat.add_sub_cancel_left, Nat.sub_eq_zero_of_le, Nat.add_assoc, zn4] <;> rfl) (by kernel_rfl) ?_)))
            exact retQ_ret Try.results10 (by simp (disch := omega) only [go_sem, ↓reduceIte, zn1, zn3, zn4] <;> rfl) (by simp (disch := omega) only [go_sem, ↓reduceIte, if_pos, if_neg] <;> rfl) rfl
          · have hrows : ∀ C : List V, ∀ k, k < ids.length → hget ((1, (⟨29, C, false⟩ : Blk)) :: (0, ⟨29, [.sc (.int .i64 h), .sc (.int .i64 w), .im (imR w (rI M)) h], false⟩) :: (o, ⟨72, slR 2 w ids, false⟩) :: rowsH 54 ids (rI A)) (ids.getD k 0) = some ⟨54, (rI A).getD k [], false⟩ := by
              intro C k hk
              have hm := getD_mem' hk
              have := hR.lt _ (hI.sub _ hm)
              simp only [hget]
              rw [if_neg (by omega), if_neg (by omega), if_neg (fun e => hI.o2 (by rw [← e]; exact hm))]
              exact rows_get hI.nod hk (by rw [rI_len]; omega)
            have hfz := fun C : List V => frz_rowsA (n := 4) (z := 2) (m := w) (ty := 54) (ids := ids) (rs := rI A) (by omega) (by rw [rI_len]; omega) (hrows C) (rI_rows hA)
            have hsl := slR_some (z := 2) (m := w) (ids := ids) (by omega)
            have ht : (slR 2 w ids).take h = slR 2 w ids := List.take_of_length_le (by omega)
            rw [hAl]
            (repeat (first | refine DO.nilF (fun i => i + 1 - nx) (by simp (disch := omega) only [go_sem, ↓reduceIte, zn1, zn2, zn3, zn4, zn5, zn6, reduceCtorEq, zn7, zi1, zi2, if_pos, if_neg, List.map_cons, List.map_nil, Option.map_some, Option.map_none, Nat.add_sub_cancel_left, Nat.sub_eq_zero_of_le, Nat.add_assoc, zn4] <;> rfl) (by kernel_rfl) ?_ | (with_reducible refine SC.condB (by simp (disch := omega) only [go_sem, ↓reduceIte]; rfl) ?_; first | with_reducible refine pickT ?_ | with_reducible refine pickF ?_) | (with_reducible first | apply oz1 | apply oz2 | apply oz3 | apply oz4 | apply oz5 | apply oz6 | apply oz7 | apply oz8 | apply oz9 | apply ozb | apply ozc | apply oze | apply ozf | apply ozg | apply ozh | apply ozi | apply ozj | apply ozk | refine ozd (by decide) ?_) | ((with_reducible apply SC.region); (focus (simp (disch := omega) only [go_sem, ↓reduceIte, zn1, zn2, zn3, zn4, reduceCtorEq, q2]; rfl))) | (with_reducible refine SC.draw Tab.mixed rfl ?_; (repeat (refine DO.run (by simp (disch := omega) only [go_sem, ↓reduceIte, zn1, zn2, zn3, zn4, zn5, zn6, reduceCtorEq, zn7, zi1, zi2, if_pos, if_neg, q2]; rfl) ?_)); refine DO.nilF (fun i => i + 1 - nx) (by simp (disch := omega) only [go_sem, ↓reduceIte, zn1, zn2, zn3, zn4, zn5, zn6, reduceCtorEq, zn7, zi1, zi2, if_pos, if_neg, List.map_cons, List.map_nil, Option.map_some, Option.map_none, Nat.add_sub_cancel_left, Nat.sub_eq_zero_of_le, Nat.add_assoc, zn4] <;> rfl) (by kernel_rfl) ?_)))
            exact retQ_ret Try.results10 (by simp (disch := omega) only [go_sem, ↓reduceIte, zn1, zn3, zn4] <;> rfl) (by simp (disch := omega) only [go_sem, ↓reduceIte, if_pos, if_neg, hfz, hsl, ht, g1] <;> rfl) rfl
end Go.Proofs.Ytfhcmibgpddggaa
namespace Go.Proofs.Ytfhcmibgpddggaa
open Go.RowKit
theorem Le.rowsTo (pre : List (Nat × Blk)) {B : Base} {sl sl' : List (Nat × V)} {hp : List (Nat × Blk)} {o nx nx1 nt : Nat} {ty tr : TypeId} {ids : List Nat} {rs : List (List V)} {C' : List V} (hB : ∃ m, B.Old m ∧ m ≤ nx)
    (hpre : ∀ i k, hget pre i = some k → k.cs.all clS = true ∧ hget hp i = some k)
    (ho : ∃ C, hget hp o = some ⟨ty, C, false⟩ ∧ ∀ (j : Nat) (y : V), C'[j]? = some y → ∃ x, C[j]? = some x ∧ VMap (fun i => i) (fun i => i < nx) x y)
    (hr : ∀ k, k < ids.length → k < rs.length → ∃ C, hget hp (ids.getD k 0) = some ⟨tr, C, false⟩ ∧ ∀ (j : Nat) (y : V), (rs.getD k [])[j]? = some y → ∃ x, C[j]? = some x ∧ VMap (fun i => i) (fun i => i < nx) x y)
    (h1 : mapSl (fun i => i) (fun i => i < nx) sl sl') :
    Le B ⟨sl, hp, nx1, nt⟩ ⟨sl', pre ++ (o, ⟨ty, C', false⟩) :: rowsH tr ids rs, nx, nt⟩ := by
  obtain ⟨m0, hB, hm0⟩ := hB
  refine Le.map (fun i => i) (fun i => i < nx) hB (fun i hi => ⟨by omega, rfl⟩) (fun i h => h) (fun i j _ _ e => e) h1 (fun i k' hk' hlt => ?_)
  rw [hget_app] at hk'
  cases hp : hget pre i with
  | some q =>
    rw [hp] at hk'
    cases hk'
    obtain ⟨p1, p2⟩ := hpre i _ hp
    rw [p2]
    exact ⟨_, rfl, rfl, rfl, fun j y hy => ⟨y, hy, VMap.clS (List.all_eq_true.1 p1 y (List.mem_of_getElem? hy))⟩⟩
  | none =>
    rw [hp] at hk'
    simp only [hget] at hk'
    split at hk'
    · rename_i e
      cases hk'
      obtain ⟨C, h2, h3⟩ := ho
      subst e
      rw [h2]
      exact ⟨_, rfl, rfl, rfl, h3⟩
    · obtain ⟨q, q1, q2, q3, rfl⟩ := rows_inv hk'
      obtain ⟨C, h2, h3⟩ := hr q q1 q2
      subst q3
      rw [h2]
      exact ⟨_, rfl, rfl, rfl, h3⟩
theorem cellsTo {z m n nx : Nat} {cap : Option Nat} {ids : List Nat} {rest : List V} (hi : ∀ i ∈ ids, i < nx) (hn : n < nx) (hrest : ∀ x ∈ rest, x = .sc (.slice none 0 0)) : ∀ (j : Nat) (y : V), (slR z m (ids ++ [n]) ++ rest)[j]? = some y → ∃ x, (slR z m ids ++ V.sl n 0 m z cap :: rest)[j]? = some x ∧ VMap (fun i => i) (fun i => i < nx) x y := by
  intro j y hy
  rw [← slR_app] at hy
  have hlen := slR_len z m ids
  rcases Nat.lt_trichotomy j ids.length with g | g | g
  · rw [List.append_assoc, List.getElem?_append_left (by omega), slR_get g] at hy
    rw [List.getElem?_append_left (by omega), slR_get g]
    cases hy
    exact ⟨_, rfl, VMap.sl rfl (hi _ (getD_mem' g))⟩
  · rw [List.append_assoc, List.getElem?_append_right (by omega), hlen, g, Nat.sub_self] at hy
    rw [List.getElem?_append_right (by omega), hlen, g, Nat.sub_self]
    have : (slR z m [n] ++ rest)[0]? = some (V.sl n 0 m z none) := rfl
    rw [this] at hy
    cases hy
    exact ⟨_, rfl, VMap.cap rfl hn⟩
  · rw [List.append_assoc, List.getElem?_append_right (by omega), hlen] at hy
    rw [List.getElem?_append_right (by omega), hlen]
    obtain ⟨q, hq⟩ : ∃ q, j - ids.length = q + 1 := ⟨j - ids.length - 1, by omega⟩
    rw [hq] at hy ⊢
    have e1 : (slR z m [n] ++ rest)[q + 1]? = rest[q]? := rfl
    rw [e1] at hy
    rw [List.getElem?_cons_succ]
    refine ⟨y, hy, ?_⟩
    rw [hrest y (List.mem_of_getElem? hy)]
    exact VMap.nil
theorem cloTo {r : List V} {f : Nat → Nat} {D : Nat → Prop} (h : r.all clS = true) : ∀ (j : Nat) (y : V), r[j]? = some y → ∃ x, r[j]? = some x ∧ VMap f D x y := fun j y hy => ⟨y, hy, VMap.clS (List.all_eq_true.1 h y (List.mem_of_getElem? hy))⟩
theorem clS_of {r : List V} (h : r.all clo = true) : r.all clS = true := by
  rw [List.all_eq_true] at h ⊢
  intro x hx
  have := h x hx
  cases x <;> first | rfl | exact this
theorem ids_snoc {ids : List Nat} {n k : Nat} (h : k < (ids ++ [n]).length) : (k < ids.length ∧ (ids ++ [n]).getD k 0 = ids.getD k 0) ∨ (k = ids.length ∧ (ids ++ [n]).getD k 0 = n) := by
  simp only [List.length_append, List.length_singleton] at h
  rcases Nat.lt_or_ge k ids.length with g | g
  · exact .inl ⟨g, by rw [List.getD_eq_getElem?_getD, List.getElem?_append_left g, List.getD_eq_getElem?_getD]⟩
  · have e : k = ids.length := by omega
    exact .inr ⟨e, by rw [e, List.getD_eq_getElem?_getD, List.getElem?_append_right (Nat.le_refl _), Nat.sub_self]; rfl⟩
def zer (w : Nat) : List V := (List.replicate w [V.sc (.bool false), V.sc (.slice none 0 0)]).flatten
def zeroL (h w : Nat) : List (List Int) := List.replicate h (List.replicate w 0)
theorem zer_map {f : Nat → Nat} {D : Nat → Prop} : ∀ (w j : Nat) (y : V), (ivR (List.replicate w 0))[j]? = some y → ∃ x, (zer w)[j]? = some x ∧ VMap f D x y
  | 0, j, y, h => by cases h
  | w + 1, j, y, h => by
    have e1 : ivR (List.replicate (w + 1) 0) = V.sc (.bool false) :: V.im [] 0 :: ivR (List.replicate w 0) := rfl
    have e2 : zer (w + 1) = V.sc (.bool false) :: V.sc (.slice none 0 0) :: zer w := rfl
    rw [e1] at h
    rw [e2]
    match j, h with
    | 0, h => cases h; exact ⟨_, rfl, VMap.sc _⟩
    | 1, h => cases h; exact ⟨_, rfl, VMap.nil_im⟩
    | j + 2, h => exact zer_map w j y h
theorem zeroL_get {h w k : Nat} (hk : k < h) : (zeroL h w).getD k [] = List.replicate w 0 := by
  unfold zeroL
  rw [List.getD_eq_getElem?_getD, List.getElem?_replicate, if_pos hk]; rfl
theorem zeroL_len {h w : Nat} : (zeroL h w).length = h := by simp [zeroL]
def MatQ (w : Nat) (M : List (List Int)) (nx : Nat) (x : V) (hp' : List (Nat × Blk)) (nx' : Nat) : Prop :=
  ∃ o ids, RowsOk o ids M.length nx nx' ∧ x = .ag [.sc (.int .i64 M.length), .sc (.int .i64 w), .sl o 0 M.length 1 none] ∧ hp' = (o, ⟨72, slR 2 w ids, false⟩) :: rowsH 54 ids (rI M)
theorem idle85 : Idle Try.prog 85 := Idle.of Tab.go85 Try.func85 rfl rfl rfl rfl Try.ntmps85 Try.results85
set_option maxHeartbeats 4000000 in
theorem pnew_s (h w nx : Nat) (hn : h ≤ 1000000) (hw : w ≤ 1000000) : InlQ Try.prog 66 [.sc (.int .i64 h), .sc (.int .i64 w)] [] nx (MatQ w (zeroL h w) nx) := by
  have hzl : (zeroL h w).length = h := by simp [zeroL]
  have hm1 : max (h : Int) 0 = h := by omega
  have hm2 : max (w : Int) 0 = w := by omega
  refine InlQ.runD Try.func66 rfl rfl rfl rfl idle85 Try.ntmps66 (by simp) (by simp (disch := omega) only [go_sem, zn4]; rfl) (by simp (disch := omega) only [go_sem, ↓reduceIte]; rfl) fun B hB => ?_
  (repeat (first | refine DO.nilF (fun i => i + 1 - nx) (by simp (disch := omega) only [go_sem, ↓reduceIte, zn1, zn2, zn3, zn4, zn5, zn6, reduceCtorEq, zn7, zi1, zi2, if_pos, if_neg, List.map_cons, List.map_nil, Option.map_some, Option.map_none, Nat.add_sub_cancel_left, Nat.sub_eq_zero_of_le, Nat.add_assoc, zn4] <;> rfl) (by kernel_rfl) ?_ | (with_reducible first | apply oz1 | apply oz2 | apply oz3 | apply oz4 | apply oz5 | apply oz6 | apply oz7 | apply oz8 | apply oz9 | apply ozb | apply ozc | apply oze | apply ozf | apply ozg | apply ozh | apply ozi | apply ozj | apply ozk | refine ozd (by decide) ?_) | ((first | apply SO.call | apply DO.call); (iterate 3 (focus (simp (disch := omega) only [go_sem, ↓reduceIte, zn1, zn2, zn3, zn4, zn5, zn6, reduceCtorEq, zn7, zi1, zi2, if_pos, if_neg, hm1, hm2] <;> rfl))); (first | apply SCall.ofX | apply DCall.ofX); (focus (first | assumption)); (focus (simp (disch := omega) only [go_sem, ↓reduceIte, zn1, zn2, zn3, zn4, zn5, zn6, reduceCtorEq, zn7, zi1, zi2, if_pos, if_neg, hm1, hm2] <;> rfl))) | ((with_reducible first | apply SC.condB | apply SC.region | apply SO.run | apply DO.run); (focus (simp (disch := omega) only [go_sem, ↓reduceIte, zn1, reduceCtorEq, if_pos, if_neg] <;> rfl)); (first | refine pickT ?_ | refine pickF ?_ | fail_if_success with_reducible refine pickA ?_)) | ((with_reducible refine SC.draw Tab.mixed ?_ ?_); (focus (first | rfl | simp (disch := omega) only [go_sem, ↓reduceIte, zn1, zn2, zn3, zn4, zn5, zn6, reduceCtorEq, zn7, zi1, zi2, if_pos, if_neg, hm1, hm2]))) | (with_reducible apply SC.ops)))
  refine SC.loop (fun x : Nat × List Nat => ⟨[(0, .sc (.int .i64 h)), (1, .sc (.int .i64 w)), (4, .pt nx 0), (5, .sl (nx + 1) 0 h 1 (some h)), (14, .sc (.int .i64 h)), (15, .sc (.int .i64 x.1))], (nx, ⟨29, [.sc (.int .i64 0), .sc (.int .i64 0), .sc (.slice none 0 0)], false⟩) :: (nx + 1, ⟨72, slR 2 w x.2 ++ List.replicate (h - x.1) (.sc (.slice none 0 0)), false⟩) :: rowsH 54 x.2 (rI (zeroL x.1 w)), nx + 2 + x.1, 28⟩)
    (fun x => x.1 ≤ h ∧ RowsOk (nx + 1) x.2 x.1 nx (nx + 2 + x.1) ∧ nx ∉ x.2) (fun x => h - x.1) (0, []) ?_ ?_ ?_
  · (refine Le.slots ?_ ?_ ?_ <;> (repeat' (first | (exact fun _ _ h => h) | exact Nat.le_refl _ | exact leSl_nil | refine leSl_cons (by simp (disch := omega) only [go_sem, ↓reduceIte, zn1, reduceCtorEq] <;> rfl) ?_ ?_ | exact VLe.junk _ | exact VLe.refl rfl | exact VLe.nil_sl _ _ _ | exact VLe.int (by first | rfl | omega | (dsimp only; omega)) | exact VLe.bool rfl | exact VLe.sl rfl (by first | rfl | omega) | exact VLe.cap rfl (by first | rfl | omega) | exact VLe.im rfl rfl | omega | (refine fun id k h => ?_; simp only [hget] at h ⊢; (repeat' (split at h)) <;> first | (cases h; done) | (simp (disch := omega) only [if_pos, if_neg]; exact h)))))
  · exact ⟨Nat.zero_le _, ⟨rfl, List.nodup_nil, by simp, by omega, by simp⟩, by simp⟩
  · rintro ⟨i, ids⟩ ⟨hi, hR, hnx⟩ K hK
    simp only at hi hR hnx ⊢
    have hlt : ∀ j ∈ ids, j < nx + 2 + i := fun j hj => (hR.lt j hj).2
    by_cases hc : i < h
    · have q1 := decide_eq_true (p := (i : Int) < (h : Int)) (by omega)
      have hcells : (slR 2 w ids ++ List.replicate (h - i) (V.sc (.slice none 0 0))).length = h := by simp [slR_len, hR.len]; omega
      have hset : (slR 2 w ids ++ List.replicate (h - i) (V.sc (.slice none 0 0))).set i (V.sl (nx + 2 + i) 0 w 2 (some w)) = slR 2 w ids ++ V.sl (nx + 2 + i) 0 w 2 (some w) :: List.replicate (h - (i + 1)) (V.sc (.slice none 0 0)) := by
        rw [List.set_append_right _ _ (by rw [slR_len, hR.len]; exact Nat.le_refl _), slR_len, hR.len, Nat.sub_self, show h - i = (h - (i + 1)) + 1 by omega, List.replicate_succ, List.set_cons_zero]
      generalize hC : slR 2 w ids ++ List.replicate (h - i) (V.sc (.slice none 0 0)) = C at *
      (repeat (first | refine DO.nilF (fun i => i + 1 - nx) (by simp (disch := omega) only [go_sem, ↓reduceIte, zn1, zn2, zn3, zn4, zn5, zn6, reduceCtorEq, zn7, zi1, zi2, if_pos, if_neg, List.map_cons, List.map_nil, Option.map_some, Option.map_none, Nat.add_sub_cancel_left, Nat.sub_eq_zero_of_le, Nat.add_assoc, zn4] <;> rfl) (by kernel_rfl) ?_ | (with_reducible first | apply oz1 | apply oz2 | apply oz3 | apply oz4 | apply oz5 | apply oz6 | apply oz7 | apply oz8 | apply oz9 | apply ozb | apply ozc | apply oze | apply ozf | apply ozg | apply ozh | apply ozi | apply ozj | apply ozk | refine ozd (by decide) ?_) | ((first | apply SO.call | apply DO.call); (iterate 3 (focus (simp (disch := omega) only [go_sem, ↓reduceIte, zn1, zn2, zn3, zn4, zn5, zn6, reduceCtorEq, zn7, zi1, zi2, if_pos, if_neg, q1, hcells, hset] <;> rfl))); (first | apply SCall.ofX | apply DCall.ofX); (focus (first | assumption)); (focus (simp (disch := omega) only [go_sem, ↓reduceIte, zn1, zn2, zn3, zn4, zn5, zn6, reduceCtorEq, zn7, zi1, zi2, if_pos, if_neg, q1, hcells, hset] <;> rfl))) | ((with_reducible first | apply SC.condB | apply SC.region | apply SO.run | apply DO.run); (focus (simp (disch := omega) only [go_sem, ↓reduceIte, zn1, zn4, reduceCtorEq, if_pos, if_neg, q1, hcells, hset] <;> rfl)); (first | refine pickT ?_ | refine pickF ?_ | fail_if_success with_reducible refine pickA ?_)) | ((with_reducible refine SC.draw Tab.mixed ?_ ?_); (focus (first | rfl | simp (disch := omega) only [go_sem, ↓reduceIte, zn1, zn2, zn3, zn4, zn5, zn6, reduceCtorEq, zn7, zi1, zi2, if_pos, if_neg, q1, hcells, hset]))) | (with_reducible apply SC.ops)))
      have hne : ∀ j ∈ ids, j ≠ nx ∧ j ≠ nx + 1 := fun j hj => ⟨fun e => hnx (e ▸ hj), fun e => hR.o2 (e ▸ hj)⟩
      refine hK _ (i + 1, ids ++ [nx + 2 + i]) ?_ ⟨by simp only; omega, ?_, ?_⟩ (by simp only; omega)
      · refine Le.rowsTo [(nx, _)] ⟨nx, hB, by omega⟩ (fun j k hj => ?_) ?_ (fun k hk1 hk2 => ?_) ?_
        · simp only [hget] at hj
          split at hj
          · rename_i e
            cases hj; subst e
            refine ⟨rfl, ?_⟩
            simp only [hget]
            rw [if_neg (by omega), if_pos trivial]
          · cases hj
        · refine ⟨_, by simp only [hget]; rw [if_neg (by omega), if_neg (by omega), if_pos trivial], cellsTo (fun j hj => by have := hlt j hj; omega) (by omega) (fun x hx => List.eq_of_mem_replicate hx)⟩
        · rw [rI_len, zeroL_len] at hk2
          rw [rI_getD, zeroL_get hk2]
          rcases ids_snoc hk1 with ⟨g, e⟩ | ⟨g, e⟩
          · have hm := getD_mem' g
            have h1 := hlt _ hm
            have h2 := hne _ hm
            have := rows_get (ty := 54) (rs := rI (zeroL i w)) (k := k) hR.nod g (by rw [rI_len, zeroL_len, hR.len])
            rw [rI_getD, zeroL_get (by rw [hR.len] at g; exact g)] at this
            rw [e]
            exact ⟨_, by simp only [hget]; rw [if_neg (by omega), if_neg h2.1, if_neg h2.2, this], cloTo (clS_of (ivR_clo _))⟩
          · rw [e]
            exact ⟨zer w, by simp only [hget]; rw [if_pos trivial]; rfl, zer_map w⟩
        · (repeat' (first | exact trivial | refine mapSl_cons (by simp (disch := omega) only [go_sem, ↓reduceIte, zn1, reduceCtorEq] <;> rfl) ?_ ?_ | exact VMap.junk _ | exact VMap.sc _ | exact VMap.clo rfl | exact VMap.sl rfl (by omega) | exact VMap.cap rfl (by omega) | exact VMap.pt rfl (by omega) | exact VMap.nil_sl _ _ _ | exact VMap.int (by first | rfl | omega | (dsimp only; omega))))
      · refine ⟨by simp [hR.len], ?_, fun j hj => ?_, by omega, ?_⟩
        · rw [List.nodup_append]
          exact ⟨hR.nod, by simp, fun a ha b hb => by simp at hb; subst hb; have := hlt a ha; omega⟩
        · rcases List.mem_append.1 hj with g | g
          · have := hR.lt j g; omega
          · simp at g; omega
        · intro h
          rcases List.mem_append.1 h with g | g
          · exact hR.o2 g
          · simp at g; omega
      · intro h
        rcases List.mem_append.1 h with g | g
        · exact hnx g
        · simp at g; omega
    · have q1 := decide_eq_false (p := (i : Int) < (h : Int)) (by omega)
      have hin : i = h := by omega
      subst hin
      (repeat (first | refine DO.nilF (fun i => i + 1 - nx) (by simp (disch := omega) only [go_sem, ↓reduceIte, zn1, zn2, zn3, zn4, zn5, zn6, reduceCtorEq, zn7, zi1, zi2, if_pos, if_neg, List.map_cons, List.map_nil, Option.map_some, Option.map_none, Nat.add_sub_cancel_left, Nat.sub_eq_zero_of_le, Nat.add_assoc, zn4] <;> rfl) (by kernel_rfl) ?_ | (with_reducible first | apply oz1 | apply oz2 | apply oz3 | apply oz4 | apply oz5 | apply oz6 | apply oz7 | apply oz8 | apply oz9 | apply ozb | apply ozc | apply oze | apply ozf | apply ozg | apply ozh | apply ozi | apply ozj | apply ozk | refine ozd (by decide) ?_) | ((first | apply SO.call | apply DO.call); (iterate 3 (focus (simp (disch := omega) only [go_sem, ↓reduceIte, zn1, zn2, zn3, zn4, zn5, zn6, reduceCtorEq, zn7, zi1, zi2, if_pos, if_neg, q1] <;> rfl))); (first | apply SCall.ofX | apply DCall.ofX); (focus (first | assumption)); (focus (simp (disch := omega) only [go_sem, ↓reduceIte, zn1, zn2, zn3, zn4, zn5, zn6, reduceCtorEq, zn7, zi1, zi2, if_pos, if_neg, q1] <;> rfl))) | ((with_reducible first | apply SC.condB | apply SC.region | apply SO.run | apply DO.run); (focus (simp (disch := omega) only [go_sem, ↓reduceIte, zn1, zn2, zn3, zn4, reduceCtorEq, q1] <;> rfl)); (first | refine pickT ?_ | refine pickF ?_ | fail_if_success with_reducible refine pickA ?_)) | ((with_reducible refine SC.draw Tab.mixed ?_ ?_); (focus (first | rfl | simp (disch := omega) only [go_sem, ↓reduceIte, zn1, zn2, zn3, zn4, zn5, zn6, reduceCtorEq, zn7, zi1, zi2, if_pos, if_neg, q1]))) | (with_reducible apply SC.ops)))
      refine retIQ_ret (.ag [.sc (.int .i64 i), .sc (.int .i64 w), .sl (nx + 1) 0 i 1 none]) ((nx + 1, ⟨72, slR 2 w ids, false⟩) :: rowsH 54 ids (rI (zeroL i w))) (nx + 2 + i) Try.results66 (by simp (disch := omega) only [go_sem, ↓reduceIte, zn1, zn3, zn4, reduceCtorEq]; rfl) ⟨nx + 1, ids, by rw [hzl]; exact ⟨hR.len, hR.nod, hR.lt, hR.o1, hR.o2⟩, by rw [hzl], rfl⟩ ?_
      rw [Nat.sub_self]
      simp only [List.replicate_zero, List.append_nil]
      refine Le.rowsDown [] pre0 ⟨nx, hB, by omega⟩ (by omega) hlt (rI_clo _) (less_new (fun id k hk => hk) (fun id k hk => ?_)) ?_
      · rcases inR_rows (fun i hi => hi) id k hk with e | e
        · omega
        · exact fun e2 => hnx (e2 ▸ e)
      · refine mapSl_cons (x := .ag [.sc (.int .i64 i), .sc (.int .i64 w), .sl (nx + 1) 0 i 1 (some i)]) (by simp (disch := omega) only [go_sem, ↓reduceIte]) (VMap.ag rfl fun j x y hx hy => ?_) trivial
        match j, hx, hy with
        | 0, hx, hy => cases hx; cases hy; exact VMap.sc _
        | 1, hx, hy => cases hx; cases hy; exact VMap.sc _
        | 2, hx, hy => cases hx; cases hy; exact VMap.cap rfl (by omega)
end Go.Proofs.Ytfhcmibgpddggaa
namespace Go.Proofs.Ytfhcmibgpddggaa
open Go.RowKit
def mkR (w : Nat) (f : Nat → Int) : List Int := (List.range w).map f
def mkM (h w : Nat) (f : Nat → Nat → Int) : List (List Int) := (List.range h).map fun r => mkR w (f r)
theorem mkR_len {w : Nat} {f : Nat → Int} : (mkR w f).length = w := by simp [mkR]
theorem mkM_len {h w : Nat} {f : Nat → Nat → Int} : (mkM h w f).length = h := by simp [mkM]
theorem mkR_get {w c : Nat} {f : Nat → Int} (h : c < w) : (mkR w f).getD c 0 = f c := by
  unfold mkR
  rw [List.getD_eq_getElem?_getD, List.getElem?_map, List.getElem?_range h]; rfl
theorem mkM_get {h w r : Nat} {f : Nat → Nat → Int} (hr : r < h) : (mkM h w f).getD r [] = mkR w (f r) := by
  unfold mkM
  rw [List.getD_eq_getElem?_getD, List.getElem?_map, List.getElem?_range hr]; rfl
theorem mkR_congr {w : Nat} {f g : Nat → Int} (h : ∀ c, c < w → f c = g c) : mkR w f = mkR w g := by
  unfold mkR
  exact List.map_congr_left fun c hc => h c (List.mem_range.1 hc)
theorem mkM_congr {h w : Nat} {f g : Nat → Nat → Int} (hh : ∀ r c, r < h → c < w → f r c = g r c) : mkM h w f = mkM h w g := by
  unfold mkM
  exact List.map_congr_left fun r hr => mkR_congr fun c hc => hh r c (List.mem_range.1 hr) hc
theorem mkM_of {h w K : Nat} {M : List (List Int)} (hM : MI h w K M) : mkM h w (fun r c => (M.getD r []).getD c 0) = M := by
  refine List.ext_getElem (by rw [mkM_len, hM.len]) fun r h1 h2 => ?_
  rw [mkM_len] at h1
  have e1 := mkM_get (w := w) (f := fun r c => (M.getD r []).getD c 0) h1
  rw [List.getD_eq_getElem?_getD, List.getElem?_eq_getElem (by rw [mkM_len]; exact h1)] at e1
  simp only [Option.getD_some] at e1
  rw [e1]
  have e2 : M.getD r [] = M[r] := by rw [List.getD_eq_getElem?_getD, List.getElem?_eq_getElem h2]; rfl
  have hl := (hM.get h1).1
  rw [← e2]
  refine ilist_ext (by rw [mkR_len, hl]) fun j hj => ?_
  rw [mkR_len] at hj
  rw [mkR_get hj]
theorem mkM_set {h w i j : Nat} {f : Nat → Nat → Int} {x : Int} (hi : i < h) (hj : j < w) : (mkM h w f).set i ((mkR w (f i)).set j x) = mkM h w fun r c => if r = i ∧ c = j then x else f r c := by
  refine List.ext_getElem (by simp [mkM_len]) fun r h1 h2 => ?_
  rw [mkM_len] at h2
  have e1 : ((mkM h w f).set i ((mkR w (f i)).set j x)).getD r [] = (mkM h w fun r c => if r = i ∧ c = j then x else f r c).getD r [] := by
    rw [getD_set (by rw [mkM_len]; exact hi), mkM_get h2, mkM_get h2]
    by_cases e : r = i
    · subst e
      rw [if_pos rfl]
      refine ilist_ext (by rw [List.length_set, mkR_len, mkR_len]) fun c hc => ?_
      rw [List.length_set, mkR_len] at hc
      rw [getD_set (by rw [mkR_len]; exact hj), mkR_get hc, mkR_get hc]
      by_cases e2 : c = j
      · rw [if_pos e2, if_pos ⟨rfl, e2⟩]
      · rw [if_neg e2, if_neg (fun h => e2 h.2)]
    · rw [if_neg e]
      exact mkR_congr fun c _ => by rw [if_neg (fun h => e h.1)]
  rw [List.getD_eq_getElem?_getD, List.getElem?_eq_getElem h1, List.getD_eq_getElem?_getD, List.getElem?_eq_getElem (by rw [mkM_len]; exact h2)] at e1
  simpa using e1
theorem mkM_zero {h w : Nat} : zeroL h w = mkM h w fun _ _ => 0 := by
  refine List.ext_getElem (by rw [zeroL_len, mkM_len]) fun r h1 h2 => ?_
  rw [zeroL_len] at h1
  have e : (zeroL h w).getD r [] = (mkM h w fun _ _ => 0).getD r [] := by
    rw [zeroL_get h1, mkM_get h1]
    refine ilist_ext (by rw [mkR_len]; simp) fun c hc => ?_
    simp only [List.length_replicate] at hc
    rw [mkR_get hc, List.getD_eq_getElem?_getD, List.getElem?_replicate, if_pos hc]; rfl
  rw [List.getD_eq_getElem?_getD, List.getElem?_eq_getElem (by rw [zeroL_len]; exact h1), List.getD_eq_getElem?_getD, List.getElem?_eq_getElem (by rw [mkM_len]; exact h1)] at e
  simpa using e
theorem mk_mi {h w K : Nat} {f : Nat → Nat → Int} (hf : ∀ r c, r < h → c < w → Fits K (f r c)) : MI h w K (mkM h w f) := by
  refine ⟨mkM_len, fun r hr => ?_⟩
  obtain ⟨i, hi, rfl⟩ := List.mem_map.1 hr
  refine ⟨mkR_len, fun x hx => ?_⟩
  obtain ⟨c, hc, rfl⟩ := List.mem_map.1 hx
  exact hf i c (List.mem_range.1 hi) (List.mem_range.1 hc)
theorem matQ_new {w nx : Nat} {M : List (List Int)} {x : V} {hp' : List (Nat × Blk)} {nx' : Nat} (h : MatQ w M nx x hp' nx') : Only (fun i => nx ≤ i) x ∧ OnlyH (fun i => nx ≤ i) hp' ∧ ∀ id k, hget hp' id = some k → nx ≤ id := by
  obtain ⟨o, ids, hR, rfl, rfl⟩ := h
  have := rowsI_new (w := w) (M := M) (nx := nx) (nx' := nx') ⟨o, ids, hR, rfl, rfl⟩
  refine ⟨.ag fun y hy => ?_, this.2⟩
  simp only [List.mem_cons, List.not_mem_nil, or_false] at hy
  rcases hy with rfl | rfl | rfl
  · exact .sc _
  · exact .sc _
  · exact this.1
theorem cellF {h w i j : Nat} {ty : TypeId} {ids : List Nat} {f : Nat → Nat → Int} {z : Int} (hnod : ids.Nodup) (hlen : ids.length = h) (hi : i < h) (hj : j < w) :
    hget (rowsH ty ids (rI (mkM h w f))) (ids.getD i 0) = some ⟨ty, ivR (mkR w (f i)), false⟩ ∧ (ivR (mkR w (f i))).length = 2 * w ∧ (ivR (mkR w (f i))).drop (j * 2) = ivC (f i j) ++ (ivR (mkR w (f i))).drop ((j + 1) * 2) ∧
    setAll (ivR (mkR w (f i))) (j * 2) (ivC z) = ivR ((mkR w (f i)).set j z) ∧ hset (rowsH ty ids (rI (mkM h w f))) (ids.getD i 0) ⟨ty, ivR ((mkR w (f i)).set j z), false⟩ = rowsH ty ids (rI (mkM h w fun r c => if r = i ∧ c = j then z else f r c)) := by
  have gR := rows_get (ty := ty) (rs := rI (mkM h w f)) (k := i) hnod (by omega) (by rw [rI_len, mkM_len]; omega)
  rw [rI_getD, mkM_get hi] at gR
  have gd := ivR_drop (l := mkR w (f i)) (i := j) (by rw [mkR_len]; exact hj)
  rw [mkR_get hj] at gd
  have hrs := rows_set (ty := ty) (rs := rI (mkM h w f)) (k := i) (r := ivR ((mkR w (f i)).set j z)) hnod (by omega) (by rw [rI_len, mkM_len]; omega)
  rw [rI_set, mkM_set hi hj] at hrs
  exact ⟨gR, by rw [ivR_len, mkR_len], gd, ivR_set z (by rw [mkR_len]; exact hj), hrs⟩
def idL (n : Nat) : List (List Int) := mkM n n fun r c => if r = c then 1 else 0
theorem fits01 {p : Prop} [Decidable p] : Fits 1 (if p then 1 else 0) := by
  unfold Fits; split <;> decide
set_option maxHeartbeats 8000000 in
set_option maxRecDepth 8000 in
theorem pident_s (n : Nat) (hn : n ≤ 1000000) : Spec Try.prog 38 [.sc (.int .i64 n)] (mat n (idL n)) := by
  have c0 := pnew_s n n 1 hn hn
  have c1 := pof_i 1 (by omega) (by omega)
  unfold iv sv at c1
  refine Spec.run Try.func38 rfl Try.ntmps38 (by simp) (by simp (disch := omega) only [go_sem]; rfl) fun B hB => ?_
  (repeat (first | refine DO.nilF (fun i => i + 1 - nx) (by simp (disch := omega) only [go_sem, ↓reduceIte, zn1, zn2, zn3, zn4, zn5, zn6, reduceCtorEq, zn7, zi1, zi2, if_pos, if_neg, List.map_cons, List.map_nil, Option.map_some, Option.map_none, Nat.add_sub_cancel_left, Nat.sub_eq_zero_of_le, Nat.add_assoc, zn4] <;> rfl) (by kernel_rfl) ?_ | (with_reducible first | apply oz1 | apply oz2 | apply oz3 | apply oz4 | apply oz5 | apply oz6 | apply oz7 | apply oz8 | apply oz9 | apply ozb | apply ozc | apply oze | apply ozf | apply ozg | apply ozh | apply ozi | apply ozj | apply ozk | refine ozd (by decide) ?_) | ((first | apply SO.call | apply DO.call); (iterate 3 (focus (simp (disch := omega) only [go_sem, ↓reduceIte, zn1] <;> rfl))); (first | apply SCall.ofX | apply DCall.ofX); (focus (first | assumption)); (focus (simp (disch := omega) only [go_sem, ↓reduceIte, zn1, zn2, zn3, zn4, zn5, zn6, reduceCtorEq, zn7, zi1, zi2, if_pos, if_neg] <;> rfl))) | ((with_reducible first | apply SC.condB | apply SC.region | apply SO.run | apply DO.run); (focus (simp (disch := omega) only [go_sem, ↓reduceIte, reduceCtorEq] <;> rfl)); (first | refine pickT ?_ | refine pickF ?_ | fail_if_success with_reducible refine pickA ?_)) | ((with_reducible refine SC.draw Tab.mixed ?_ ?_); (focus (first | rfl | simp (disch := omega) only [go_sem, ↓reduceIte, zn1, zn2, zn3, zn4, zn5, zn6, reduceCtorEq, zn7, zi1, zi2, if_pos, if_neg]))) | (with_reducible apply SC.ops)))
  refine SO.inlQ (by simp (disch := omega) only [go_sem] <;> rfl) Tab.go66 (by simp (disch := omega) only [go_sem, ↓reduceIte, zn1] <;> rfl) (by simp (disch := omega) only [go_sem] <;> rfl) (SInlQ.newR c0 ?_ ?_ ?_)
  · exact klc (by omega) kln
  · exact fun x hp' nx' h => matQ_new h
  rintro x hp' nx ⟨o, ids, hR, rfl, rfl⟩
  have ho := hR.o1
  rw [zeroL_len] at hR ⊢
  rw [mkM_zero]
  (repeat (first | refine DO.nilF (fun i => i + 1 - nx) (by simp (disch := omega) only [go_sem, ↓reduceIte, zn1, zn2, zn3, zn4, zn5, zn6, reduceCtorEq, zn7, zi1, zi2, if_pos, if_neg, List.map_cons, List.map_nil, Option.map_some, Option.map_none, Nat.add_sub_cancel_left, Nat.sub_eq_zero_of_le, Nat.add_assoc, zn4] <;> rfl) (by kernel_rfl) ?_ | (with_reducible first | apply oz1 | apply oz2 | apply oz3 | apply oz4 | apply oz5 | apply oz6 | apply oz7 | apply oz8 | apply oz9 | apply ozb | apply ozc | apply oze | apply ozf | apply ozg | apply ozh | apply ozi | apply ozj | apply ozk | refine ozd (by decide) ?_) | ((first | apply SO.call | apply DO.call); (iterate 3 (focus (simp (disch := omega) only [go_sem, ↓reduceIte, zn1, zn2, zn3, zn4, zn5, zn6, reduceCtorEq, zn7, zi1, zi2, if_pos, if_neg] <;> rfl))); (first | apply SCall.ofX | apply DCall.ofX); (focus (first | assumption)); (focus (simp (disch := omega) only [go_sem, ↓reduceIte, zn1, zn2, zn3, zn4, zn5, zn6, reduceCtorEq, zn7, zi1, zi2, if_pos, if_neg] <;> rfl))) | ((with_reducible first | apply SC.condB | apply SC.region | apply SO.run | apply DO.run); (focus (simp (disch := omega) only [go_sem, ↓reduceIte, zn1, zn3, zn4, reduceCtorEq] <;> rfl)); (first | refine pickT ?_ | refine pickF ?_ | fail_if_success with_reducible refine pickA ?_)) | ((with_reducible refine SC.draw Tab.mixed ?_ ?_); (focus (first | rfl | simp (disch := omega) only [go_sem, ↓reduceIte, zn1, zn2, zn3, zn4, zn5, zn6, reduceCtorEq, zn7, zi1, zi2, if_pos, if_neg]))) | (with_reducible apply SC.ops)))
  have e0 : mkM n n (fun _ _ => 0) = mkM n n (fun r c => if r = c ∧ r < 0 then 1 else 0) := mkM_congr fun r c _ _ => by rw [if_neg (by omega)]
  rw [e0]
  refine SC.loop (fun i : Nat => ⟨[(2, .pt 0 0), (3, .pt nx 0), (10, .sc (.int .i64 n)), (11, .sc (.int .i64 i))], (nx, ⟨29, [.sc (.int .i64 n), .sc (.int .i64 n), .sl o 0 n 1 none], false⟩) :: (0, ⟨29, [.sc (.int .i64 0), .sc (.int .i64 0), .sc (.slice none 0 0)], false⟩) :: (o, ⟨72, slR 2 n ids, false⟩) :: rowsH 54 ids (rI (mkM n n (fun r c => if r = c ∧ r < i then 1 else 0))), nx + 1, 24⟩)
    (fun i => i ≤ n) (fun i => n - i) 0 ?_ ?_ ?_
  · (refine Le.slots ?_ ?_ ?_ <;> (repeat' (first | (exact fun _ _ h => h) | exact Nat.le_refl _ | exact leSl_nil | refine leSl_cons (by simp (disch := omega) only [go_sem, ↓reduceIte, zn1] <;> rfl) ?_ ?_ | exact VLe.junk _ | exact VLe.refl rfl | exact VLe.nil_sl _ _ _ | exact VLe.int (by first | rfl | omega | (dsimp only; omega)) | exact VLe.bool rfl | exact VLe.sl rfl (by first | rfl | omega) | exact VLe.cap rfl (by first | rfl | omega) | exact VLe.im rfl rfl | omega | (refine fun id k h => ?_; simp only [hget] at h ⊢; (repeat' (split at h)) <;> first | (cases h; done) | (simp (disch := omega) only [if_pos, if_neg]; exact h)))))
  · exact Nat.zero_le _
  · intro i hi K hK
    have hidl := hR.len
    have g1 := slR_len 2 n ids
    rw [hidl] at g1
    by_cases hc : i < n
    · have q1 := decide_eq_true (p := (i : Int) < (n : Int)) (by omega)
      have gi := slR_get (z := 2) (m := n) (ids := ids) (k := i) (by omega)
      obtain ⟨gR, gl, gd, gs, hrs⟩ := cellF (ty := 54) (f := fun r c => if r = c ∧ r < i then (1 : Int) else 0) (z := 1) (j := i) hR.nod hidl hc hc
      have e1 : mkM n n (fun r c => if r = i ∧ c = i then (1 : Int) else if r = c ∧ r < i then 1 else 0) = mkM n n (fun r c => if r = c ∧ r < i + 1 then 1 else 0) := mkM_congr fun r c _ _ => by
        by_cases e : r = i ∧ c = i
        · rw [if_pos e, if_pos (by omega)]
        · rw [if_neg e]
          by_cases e2 : r = c ∧ r < i
          · rw [if_pos e2, if_pos (by omega)]
          · rw [if_neg e2, if_neg (by omega)]
      rw [e1] at hrs
      have hkl := klB_rows (ty := 54) (rs := rI (mkM n n fun r c => if r = c ∧ r < i then (1 : Int) else 0)) (n := nx + 1) (fun j hj => by have := hR.lt j hj; omega)
      have hmem := getD_mem' (ids := ids) (k := i) (by omega)
      have hidk := hR.lt _ hmem
      have hne : ids.getD i 0 ≠ o := fun e => hR.o2 (by rw [← e]; exact hmem)
      generalize hH : rowsH 54 ids (rI (mkM n n fun r c => if r = c ∧ r < i then (1 : Int) else 0)) = H at *
      generalize mkR n (fun c => if i = c ∧ i < i then (1 : Int) else 0) = row at *
      generalize ids.getD i 0 = idk at *
      unfold ivC sv at gs
      have g2 : i * 2 < (ivR row).length := by omega
      (repeat (first | refine DO.nilF (fun i => i + 1 - nx) (by simp (disch := omega) only [go_sem, List.map_cons, List.map_nil, Option.map_some, Option.map_none, Nat.add_sub_cancel_left, Nat.sub_eq_zero_of_le] <;> rfl) (by kernel_rfl) ?_ | (with_reducible first | apply oz1 | apply oz2 | apply oz3 | apply oz4 | apply oz5 | apply oz6 | apply oz7 | apply oz8 | apply oz9 | apply ozb | apply ozc | apply oze | apply ozf | apply ozg | apply ozh | apply ozi | apply ozj | apply ozk | refine ozd (by decide) ?_) | ((first | apply SO.call | apply DO.call); (iterate 3 (focus (simp (disch := omega) only [go_sem] <;> rfl))); (first | apply SCall.ofX | apply DCall.ofX); (focus (first | assumption)); (focus (simp (disch := omega) only [go_sem] <;> rfl))) | ((with_reducible first | apply SC.condB | apply SC.region | apply SO.run | apply DO.run); (focus (simp (disch := omega) only [go_sem, ↓reduceIte, zn1, zn4, reduceCtorEq, if_pos, if_neg, q1, gi, gR, gl, gs, hrs] <;> rfl)); (first | refine pickT ?_ | refine pickF ?_ | fail_if_success with_reducible refine pickA ?_)) | ((with_reducible refine SC.draw Tab.mixed ?_ ?_); (focus (first | rfl | simp (disch := omega) only [go_sem, ↓reduceIte, if_pos, hkl]))) | (with_reducible apply SC.ops)))
      refine hK _ (i + 1) ?_ (by omega) (by omega)
      (refine Le.slots ?_ ?_ ?_ <;> (repeat' (first | (exact fun _ _ h => h) | exact Nat.le_refl _ | exact leSl_nil | refine leSl_cons (by simp (disch := omega) only [go_sem, ↓reduceIte, zn1] <;> rfl) ?_ ?_ | exact VLe.junk _ | exact VLe.refl rfl | exact VLe.nil_sl _ _ _ | exact VLe.int (by first | rfl | omega | (dsimp only; omega)) | exact VLe.bool rfl | exact VLe.sl rfl (by first | rfl | omega) | exact VLe.cap rfl (by first | rfl | omega) | exact VLe.im rfl rfl | omega | (refine fun id k h => ?_; simp only [hget] at h ⊢; (repeat' (split at h)) <;> first | (cases h; done) | (simp (disch := omega) only [if_pos, if_neg]; exact h)))))
    · have q1 := decide_eq_false (p := (i : Int) < (n : Int)) (by omega)
      have hin : i = n := by omega
      subst hin
      have e1 : mkM i i (fun r c => if r = c ∧ r < i then (1 : Int) else 0) = idL i := mkM_congr fun r c hr _ => by
        by_cases e : r = c
        · rw [if_pos ⟨e, hr⟩, if_pos e]
        · rw [if_neg (fun h => e h.1), if_neg e]
      rw [e1]
      have hA : MI i i 1 (idL i) := mk_mi fun r c _ _ => fits01
      have hAl := hA.len
      by_cases h0 : i = 0
      · subst h0
        have hids : ids = [] := List.eq_nil_of_length_eq_zero (by omega)
        subst hids
        (repeat (first | refine DO.nilF (fun i => i + 1 - nx) (by simp (disch := omega) only [go_sem, ↓reduceIte, zn1, zn2, zn3, zn4, zn5, zn6, reduceCtorEq, zn7, zi1, zi2, if_pos, if_neg, List.map_cons, List.map_nil, Option.map_some, Option.map_none, Nat.add_sub_cancel_left, Nat.sub_eq_zero_of_le, Nat.add_assoc, zn4] <;> rfl) (by kernel_rfl) ?_ | (with_reducible refine SC.condB (by simp (disch := omega) only [go_sem, ↓reduceIte]; rfl) ?_; first | with_reducible refine pickT ?_ | with_reducible refine pickF ?_) | (with_reducible first | apply oz1 | apply oz2 | apply oz3 | apply oz4 | apply oz5 | apply oz6 | apply oz7 | apply oz8 | apply oz9 | apply ozb | apply ozc | apply oze | apply ozf | apply ozg | apply ozh | apply ozi | apply ozj | apply ozk | refine ozd (by decide) ?_) | ((with_reducible apply SC.region); (focus (simp (disch := omega) only [go_sem, ↓reduceIte, zn1, zn2, zn3, zn4, if_neg, q1]; rfl))) | (with_reducible refine SC.draw Tab.mixed rfl ?_; (repeat (refine DO.run (by simp (disch := omega) only [go_sem, ↓reduceIte, zn1, zn2, zn3, zn4, zn5, zn6, reduceCtorEq, zn7, zi1, zi2, if_pos, if_neg, q1]; rfl) ?_)); refine DO.nilF (fun i => i + 1 - nx) (by simp (disch := omega) only [go_sem, ↓reduceIte, zn1, zn2, zn3, zn4, zn5, zn6, reduceCtorEq, zn7, zi1, zi2, if_pos, if_neg, List.map_cons, List.map_nil, Option.map_some, Option.map_none, Nat.add_sub_cancel_left, Nat.sub_eq_zero_of_le, Nat.add_assoc, zn4] <;> rfl) (by kernel_rfl) ?_)))
        exact retQ_ret Try.results38 (by simp (disch := omega) only [go_sem, ↓reduceIte, zn1, zn3, zn4, if_neg] <;> rfl) (by simp (disch := omega) only [go_sem, ↓reduceIte, if_pos, if_neg] <;> rfl) rfl
      · have hrows : ∀ C D : List V, ∀ k, k < ids.length → hget ((nx, (⟨29, C, false⟩ : Blk)) :: (0, ⟨29, D, false⟩) :: (o, ⟨72, slR 2 i ids, false⟩) :: rowsH 54 ids (rI (idL i))) (ids.getD k 0) = some ⟨54, (rI (idL i)).getD k [], false⟩ := by
          intro C D k hk
          have hm := getD_mem' hk
          have := hR.lt _ hm
          simp only [hget]
          rw [if_neg (by omega), if_neg (by omega), if_neg (fun e => hR.o2 (by rw [← e]; exact hm))]
          exact rows_get hR.nod hk (by rw [rI_len]; omega)
        have hfz := fun C D : List V => frz_rowsA (n := 5) (z := 2) (m := i) (ty := 54) (ids := ids) (rs := rI (idL i)) (by omega) (by rw [rI_len]; omega) (hrows C D) (rI_rows hA)
        have hsl := slR_some (z := 2) (m := i) (ids := ids) (by omega)
        have ht : (slR 2 i ids).take i = slR 2 i ids := List.take_of_length_le (by omega)
        have hne : nx ≠ o := by omega
        unfold mat
        rw [hAl]
        (repeat (first | refine DO.nilF (fun i => i + 1 - nx) (by simp (disch := omega) only [go_sem, ↓reduceIte, zn1, zn2, zn3, zn4, zn5, zn6, reduceCtorEq, zn7, zi1, zi2, if_pos, if_neg, List.map_cons, List.map_nil, Option.map_some, Option.map_none, Nat.add_sub_cancel_left, Nat.sub_eq_zero_of_le, Nat.add_assoc, zn4] <;> rfl) (by kernel_rfl) ?_ | (with_reducible refine SC.condB (by simp (disch := omega) only [go_sem, ↓reduceIte]; rfl) ?_; first | with_reducible refine pickT ?_ | with_reducible refine pickF ?_) | (with_reducible first | apply oz1 | apply oz2 | apply oz3 | apply oz4 | apply oz5 | apply oz6 | apply oz7 | apply oz8 | apply oz9 | apply ozb | apply ozc | apply oze | apply ozf | apply ozg | apply ozh | apply ozi | apply ozj | apply ozk | refine ozd (by decide) ?_) | ((with_reducible apply SC.region); (focus (simp (disch := omega) only [go_sem, ↓reduceIte, zn1, zn2, zn3, zn4, if_neg, q1]; rfl))) | (with_reducible refine SC.draw Tab.mixed rfl ?_; (repeat (refine DO.run (by simp (disch := omega) only [go_sem, ↓reduceIte, zn1, zn2, zn3, zn4, zn5, zn6, reduceCtorEq, zn7, zi1, zi2, if_pos, if_neg, q1]; rfl) ?_)); refine DO.nilF (fun i => i + 1 - nx) (by simp (disch := omega) only [go_sem, ↓reduceIte, zn1, zn2, zn3, zn4, zn5, zn6, reduceCtorEq, zn7, zi1, zi2, if_pos, if_neg, List.map_cons, List.map_nil, Option.map_some, Option.map_none, Nat.add_sub_cancel_left, Nat.sub_eq_zero_of_le, Nat.add_assoc, zn4] <;> rfl) (by kernel_rfl) ?_)))
        exact retQ_ret Try.results38 (by simp (disch := omega) only [go_sem, ↓reduceIte, zn1, zn3, zn4, if_neg] <;> rfl) (by simp (disch := omega) only [go_sem, ↓reduceIte, if_pos, if_neg, hfz, hsl, ht, g1] <;> rfl) rfl
end Go.Proofs.Ytfhcmibgpddggaa
