/- 'OplogUndoes' returns true for every input, and each argument reads afterwards as it read before. No conditions. -/
import Derived.Test.YtfhcmibgpddggaaRows
import Derived.Test.YtfhcmibgpddggaaZm
set_option linter.all false

namespace Go.Proofs.Ytfhcmibgpddggaa
open Go.ChangeShapes Go.WideShapes Go.ChangeAt Go.RowKit

set_option maxRecDepth 20000 in
set_option maxHeartbeats 8000000 in
theorem lundoes_s {h w : Nat} {M : List (List Int)} {l : List OpL} {X Y : V} (hh : h < 5) (hw : w < 5) (hM : MI h w 1 M) (hl : ∀ o ∈ l, OkOp h o) (hn : l.length ≤ 10) (hX : ∃ (a b : Nat) (cs : List V) (n : Nat), X = .ag [.sc (.int .u8 a), .sc (.int .u8 b), .im cs n]) (hY : ∃ cs n, Y = .im cs n)
    (x1 : Spec Try.prog 8 [X] (mat w M)) (x2 : Spec Try.prog 9 [Y, .sc (.int .i64 h), .sc (.int .i64 10)] (.im (opsC l) l.length)) :
    Spec Try.prog 3 [X, Y] (.sc (.bool true)) := by
  have cs := sanity_s
  have hi := invL_ok hl
  have hil := invL_len l
  have mB := acts_mi hM hl
  have mD := acts_mi hM hi
  have mP := acts_mi (idL_mi (n := h)) hl
  have mQ := acts_mi (idL_mi (n := h)) hi
  rw [hil] at mD mQ
  have c1 := iapply_s hM hl (by omega) (by omega) (by omega)
  have c2 := isized_s mB (by omega) (by omega) (by omega)
  have c3 := iundo_s mB hl (by omega) (by omega) (by omega)
  rw [(acts_inv hM hl).1] at c3
  have c4 := iundo_s hM hl (by omega) (by omega) (by omega)
  have c5 := isized_s mD (by omega) (by omega) (by omega)
  have c6 := iapply_s mD hl (by omega) (by omega) (by omega)
  rw [(acts_inv hM hl).2] at c6
  have c7 := imatrix_s hl (by omega) (by omega)
  have c8 := iinv_s hl (by omega)
  have c9 := imatrix_s hi (by omega) (by omega)
  rw [hil] at c9
  have d1 := isized_s mP (by omega) (by omega) (by omega)
  have d2 := isized_s mQ (by omega) (by omega) (by omega)
  have d3 := isame_s hM (by omega) (by omega) (by omega)
  have d4 := rprod_s (mP.mono (Nat.le_refl _)) mQ (by omega) (by omega) (by omega) (by omega)
  rw [acts_prod mQ hl (by omega), (acts_inv idL_mi hl).2] at d4
  have d5 := rident_s h (by omega)
  have d6 := isame_s (idL_mi (n := h)) (by omega) (by omega) (by omega)
  have l1 := hM.len
  have l2 := mB.len
  have l3 := mD.len
  have l4 := mP.len
  have l5 := mQ.len
  have l6 := (idL_mi (n := h)).len
  obtain ⟨xa, xb, xs, xn, rfl⟩ := hX
  obtain ⟨ys, yn, rfl⟩ := hY
  clear mB mD mP mQ hM hl hi hil
  generalize actsO M (invL l) = D at *
  generalize actsO M l = AM at *
  generalize actsO (idL h) (invL l) = Q at *
  generalize actsO (idL h) l = P at *
  generalize idL h = I at *
  generalize opsC (invL l) = li at *
  generalize opsC l = lo at *
  generalize l.length = n at *
  unfold mat at *
  simp only [l1, l2, l3, l4, l5, l6] at c1 c2 c3 c4 c5 c6 c7 c9 d1 d2 d3 d4 d5 d6 x1
  refine Spec.run Try.func3 rfl Try.ntmps3 (by simp) (by simp (disch := omega) only [go_sem, Nat.reduceAdd]; rfl) fun B hB => ?_
  (repeat (first | refine DO.nil (by kernel_rfl) ?_ | (with_reducible first | apply oz1 | apply oz2 | apply oz3 | apply oz4 | apply oz5 | apply oz6 | apply oz7 | apply oz8 | apply oz9 | apply ozb | apply ozc | apply oze | apply ozf | apply ozg | apply ozh | apply ozi | apply ozj | apply ozk | refine ozd (by decide) ?_) | ((first | apply SO.call | apply DO.call); (iterate 3 (focus (simp (disch := omega) only [go_sem, ↓reduceIte, Nat.reduceEqDiff, beq_self_eq_true] <;> rfl))); (first | apply SCall.ofX | apply DCall.ofX); (focus (first | assumption)); (focus (simp (disch := omega) only [go_sem] <;> rfl))) | ((with_reducible first | apply SC.condB | apply SC.region | apply SO.run | apply DO.run); (focus (simp (disch := omega) only [go_sem, ↓reduceIte, Nat.reduceEqDiff, Nat.reduceLT, Nat.reduceLeDiff, Nat.reduceAdd, reduceCtorEq, bne_self_eq_false, beq_self_eq_true] <;> rfl)); (first | refine pickT ?_ | refine pickF ?_ | fail_if_success with_reducible refine pickA ?_)) | ((with_reducible refine SC.draw Tab.mixed ?_ ?_); (focus (first | rfl | simp (disch := omega) only [go_sem, ↓reduceIte, Nat.reduceEqDiff, Nat.reduceLT, Nat.reduceLeDiff, Nat.reduceAdd, Nat.reduceMul, Nat.reduceSub, reduceCtorEq, Nat.reduceBEq, Int.reduceToNat, Int.reducePow, if_pos, if_neg, bne_self_eq_false, beq_self_eq_true]))) | (with_reducible apply SC.ops)))
  exact retQ_ret Try.results3 (by simp (disch := omega) only [go_sem, ↓reduceIte]; rfl) (by simp (disch := omega) only [go_sem]; rfl) rfl

theorem spec_all (xs : List V) (h : Shp.Vals [.st [.int .u8, .int .u8, .slc (.int .i8)], .slc (.st [.int .u8, .int .u8, .int .u8, .int .i8])] xs) : Spec Try.prog 3 xs (.sc (.bool true)) := by
  obtain ⟨x0, ys0, rfl, h0, x1, ys1, rfl, h1, rfl⟩ := h
  obtain ⟨a, b, l, rfl, ha, hb, hx, hl⟩ := raw5_val h0
  obtain ⟨m, rfl, hm, hl2⟩ := mv_val h1
  have hr : a % 5 < 5 := Nat.mod_lt _ (by omega)
  exact lundoes_s hr (Nat.mod_lt _ (by omega)) (filL_mi hx) (madeL_ok hm) madeL_len ⟨_, _, _, _, rfl⟩ ⟨_, _, rfl⟩ (rmade_s ha hb hx hl) (lmade_s (m := 10) (by omega) (by decide) hm hl2)

theorem own : ownKnob Try.prog.godebug = none := by kernel_rfl
theorem laidOut : laidOutB Try.prog = true := by kernel_rfl

set_option maxRecDepth 100000 in
theorem law_lifted (os : Os) (started : os.Started) (H : Type) (enc : TypeId × Value → H) :
    ReturnsInHanded {} Try.checked os 3 .any (Rows.oplogUndoesSpec.pre6 enc Try.prog Try.f3 Rows.oplogUndoesRow.domain false) (Rows.oplogUndoesSpec.post enc Try.prog Try.f3 false true false false) := by
  refine returnsInHanded_of_change (C := Try.checked) own started (by kernel_rfl) Try.func3
    (ChangeSpec.witness6 (enc := enc) (C := Try.checked) false ⟨#[], #[.agg #[.int .u8 0, .int .u8 0, .slice none 0 0], .slice none 0 0], []⟩ 8 (by kernel_rfl) (by kernel_rfl) (by kernel_rfl) (by kernel_rfl)) ?_
  intro W base args ds gs before hval0 hW hcnd _
  have hW' := hW
  obtain ⟨p, q, hA0, hV, rfl, hfz, hnd⟩ := hW
  obtain ⟨hl, hc⟩ := law_calls (enc := enc) [.st [.int .u8, .int .u8, .slc (.int .i8)], .slc (.st [.int .u8, .int .u8, .int .u8, .int .i8])] (by kernel_rfl) hval0 hA0 (fun g cs h => by cases h) spec_all
  refine hc.mono fun e W' ⟨he, hb⟩ => ?_
  subst he
  rw [show Try.f3.params.size = 2 by kernel_rfl] at hl
  obtain ⟨d0, d1, rfl⟩ : ∃ d0 d1, ds = [d0, d1] := by
    match ds, hl with
    | [a0, a1], _ => exact ⟨a0, a1, rfl⟩
  exact ⟨_, rfl, law_post laidOut (by kernel_rfl) (by kernel_rfl) Try.underlying4 rfl rfl hW' hb⟩

theorem law_holds : Rows.OplogUndoesSaid :=
  OpenClaim.holds_of_wide 3 Try.f3 rfl rfl rfl rfl rfl rfl rfl ⟨rfl, rfl, rfl, rfl, rfl⟩ rfl rfl rfl rfl rfl (by kernel_rfl) Try.func3 (by kernel_rfl)
    (of_decide_eq_true (by kernel_rfl)) (by unfold Func.isWrapper; first | (rw [if_pos (by decide +kernel)]; kernel_rfl) | (rw [if_neg (by decide +kernel)]; exact ⟨rfl, rfl⟩))
    (fun os started H enc _ => law_lifted os started H enc)
#print axioms law_holds
end Go.Proofs.Ytfhcmibgpddggaa
