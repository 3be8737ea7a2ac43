/- 'OplogComposes' returns true for every input, and each argument reads afterwards as it read before. No conditions. -/
import Derived.Test.YtfhcmibgpddggaaRows
import Derived.Test.YtfhcmibgpddggaaZm
set_option linter.all false

namespace Go.Proofs.Ytfhcmibgpddggaa
open Go.ChangeShapes Go.WideShapes Go.ChangeAt Go.RowKit

set_option maxRecDepth 20000 in
set_option maxHeartbeats 8000000 in
theorem lcomposes_s {h w : Nat} {M : List (List Int)} {l k : List OpL} {X Y Z : V} (hh : h < 5) (hw : w < 5) (hM : MI h w 1 M) (hl : ∀ o ∈ l, OkOp h o) (hk : ∀ o ∈ k, OkOp h o) (hn : l.length ≤ 8) (hm : k.length ≤ 8)
    (hX : ∃ (a b : Nat) (cs : List V) (n : Nat), X = .ag [.sc (.int .u8 a), .sc (.int .u8 b), .im cs n]) (hY : ∃ cs n, Y = .im cs n) (hZ : ∃ cs n, Z = .im cs n)
    (x1 : Spec Try.prog 8 [X] (mat w M)) (x2 : Spec Try.prog 9 [Y, .sc (.int .i64 h), .sc (.int .i64 8)] (.im (opsC l) l.length))
    (x3 : Spec Try.prog 9 [Z, .sc (.int .i64 h), .sc (.int .i64 8)] (.im (opsC k) k.length)) :
    Spec Try.prog 4 [X, Y, Z] (.sc (.bool true)) := by
  have cs := sanity_s
  have hlk : ∀ o ∈ l ++ k, OkOp h o := fun o ho => (List.mem_append.1 ho).elim (hl o) (hk o)
  have mB := acts_mi hM hl
  have mP := acts_mi (idL_mi (n := h)) hl
  have mQ := acts_mi (idL_mi (n := h)) hk
  have mR := acts_mi mP hk
  have c1 := iapply_s hM hl (by omega) (by omega) (by omega)
  have c2 := imatrix_s hl (by omega) (by omega)
  have c3 := imatrix_s hk (by omega) (by omega)
  have c4 := imatrix_s hlk (by rw [List.length_append]; omega) (by omega)
  rw [actsO_app, opsC_app, List.length_append] at c4
  have d1 := isized_s mP (by omega) (by omega) (by omega)
  have d2 := isized_s mQ (by omega) (by omega) (by omega)
  have d3 := isame_s mB (by omega) (by omega) (by omega)
  have d4 := isame_s mR (by omega) (by omega) (by omega)
  have d5 := rprod_s mP (hM.mono (by omega)) (by omega) (by omega) (by omega) (by omega)
  rw [acts_prod hM hl (by omega)] at d5
  have d6 := rprod_s (mQ.mono (Nat.le_add_right _ (1 + 2 * l.length))) (mP.mono (by omega)) (by omega) (by omega) (by omega) (by omega)
  rw [acts_prod mP hk (by omega)] at d6
  have l1 := hM.len
  have l2 := mB.len
  have l3 := mP.len
  have l4 := mQ.len
  have l5 := mR.len
  have g1 := opsC_len l
  have g2 := opsC_len k
  rw [Nat.mul_comm] at g1 g2
  have e1 := opsC_one l
  have e2 := opsC_one k
  have f1 := opsC_clo l
  have f2 := opsC_clo k
  obtain ⟨xa, xb, xs, xn, rfl⟩ := hX
  obtain ⟨ys, yn, rfl⟩ := hY
  obtain ⟨zs, zn, rfl⟩ := hZ
  clear mB mP mQ mR hM hl hk hlk
  generalize actsO (actsO (idL h) l) k = R at *
  generalize actsO (idL h) l = P at *
  generalize actsO (idL h) k = Q at *
  generalize actsO M l = AM at *
  generalize opsC l = lo at *
  generalize opsC k = ko at *
  generalize l.length = n at *
  generalize k.length = m at *
  have t1 : lo.take (n * 5) = lo := List.take_of_length_le (by omega)
  have t2 : (lo ++ ko).length = (n + m) * 5 := by rw [List.length_append]; omega
  have t3 : (lo ++ ko).take ((n + m) * 5) = lo ++ ko := List.take_of_length_le (by omega)
  have t4 : (lo ++ ko).all clo = true := by rw [List.all_append, f1, f2]; rfl
  unfold mat at *
  simp only [l1, l2, l3, l4, l5] at c1 c2 c3 c4 d1 d2 d3 d4 d5 d6 x1
  refine Spec.run Try.func4 rfl Try.ntmps4 (by simp) (by simp (disch := omega) only [go_sem, Nat.reduceAdd]; rfl) fun B hB => ?_
  (repeat (first | refine DO.nil (by kernel_rfl) ?_ | (with_reducible first | apply oz1 | apply oz2 | apply oz3 | apply oz4 | apply oz5 | apply oz6 | apply oz7 | apply oz8 | apply oz9 | apply ozb | apply ozc | apply oze | apply ozf | apply ozg | apply ozh | apply ozi | apply ozj | apply ozk | refine ozd (by decide) ?_) | ((first | apply SO.call | apply DO.call); (iterate 3 (focus (simp (disch := omega) only [go_sem, ↓reduceIte, Nat.reduceEqDiff, if_pos, beq_self_eq_true, t2, t3, t4] <;> rfl))); (first | apply SCall.ofX | apply DCall.ofX); (focus (first | assumption)); (focus (simp (disch := omega) only [go_sem, ↓reduceIte, Nat.reduceBEq, beq_self_eq_true] <;> rfl))) | ((with_reducible first | apply SC.condB | apply SC.region | apply SO.run | apply DO.run); (focus (simp (disch := omega) only [go_sem, ↓reduceIte, Nat.reduceEqDiff, Nat.reduceLT, Nat.reduceLeDiff, Nat.reduceAdd, reduceCtorEq, if_pos, bne_self_eq_false, beq_self_eq_true, g1, g2, e1, e2, t1] <;> rfl)); (first | refine pickT ?_ | refine pickF ?_ | fail_if_success with_reducible refine pickA ?_)) | ((with_reducible refine SC.draw Tab.mixed ?_ ?_); (focus (first | rfl | simp (disch := omega) only [go_sem, ↓reduceIte, Nat.reduceEqDiff, Nat.reduceLT, Nat.reduceLeDiff, Nat.reduceAdd, Nat.reduceMul, Nat.reduceSub, reduceCtorEq, Nat.reduceBEq, Int.reduceToNat, Int.reducePow, if_pos, if_neg, bne_self_eq_false, beq_self_eq_true, g1, g2, e1, e2, t1, t2, t3, t4]))) | (with_reducible apply SC.ops)))
  trace_state
  exact retQ_ret Try.results4 (by simp (disch := omega) only [go_sem, ↓reduceIte]; rfl) (by simp (disch := omega) only [go_sem]; rfl) rfl

theorem spec_all (xs : List V) (h : Shp.Vals [.st [.int .u8, .int .u8, .slc (.int .i8)], .slc (.st [.int .u8, .int .u8, .int .u8, .int .i8]), .slc (.st [.int .u8, .int .u8, .int .u8, .int .i8])] xs) : Spec Try.prog 4 xs (.sc (.bool true)) := by
  obtain ⟨x0, ys0, rfl, h0, x1, ys1, rfl, h1, x2, ys2, rfl, h2, rfl⟩ := h
  obtain ⟨a, b, l, rfl, ha, hb, hx, hl⟩ := raw5_val h0
  obtain ⟨m, rfl, hm, hl2⟩ := mv_val h1
  obtain ⟨n, rfl, hn, hl3⟩ := mv_val h2
  have hr : a % 5 < 5 := Nat.mod_lt _ (by omega)
  exact lcomposes_s hr (Nat.mod_lt _ (by omega)) (filL_mi hx) (madeL_ok hm) (madeL_ok hn) madeL_len madeL_len ⟨_, _, _, _, rfl⟩ ⟨_, _, rfl⟩ ⟨_, _, rfl⟩ (rmade_s ha hb hx hl) (lmade_s (m := 8) (by omega) (by decide) hm hl2) (lmade_s (m := 8) (by omega) (by decide) hn hl3)

theorem own : ownKnob Try.prog.godebug = none := by kernel_rfl
theorem laidOut : laidOutB Try.prog = true := by kernel_rfl

set_option maxRecDepth 100000 in
theorem law_lifted (os : Os) (started : os.Started) (H : Type) (enc : TypeId × Value → H) :
    ReturnsInHanded {} Try.checked os 4 .any (Rows.oplogComposesSpec.pre6 enc Try.prog Try.f4 Rows.oplogComposesRow.domain false) (Rows.oplogComposesSpec.post enc Try.prog Try.f4 false true false false) := by
  refine returnsInHanded_of_change (C := Try.checked) own started (by kernel_rfl) Try.func4
    (ChangeSpec.witness6 (enc := enc) (C := Try.checked) false ⟨#[], #[.agg #[.int .u8 0, .int .u8 0, .slice none 0 0], .slice none 0 0, .slice none 0 0], []⟩ 8 (by kernel_rfl) (by kernel_rfl) (by kernel_rfl) (by kernel_rfl)) ?_
  intro W base args ds gs before hval0 hW hcnd _
  have hW' := hW
  obtain ⟨p, q, hA0, hV, rfl, hfz, hnd⟩ := hW
  obtain ⟨hl, hc⟩ := law_calls (enc := enc) [.st [.int .u8, .int .u8, .slc (.int .i8)], .slc (.st [.int .u8, .int .u8, .int .u8, .int .i8]), .slc (.st [.int .u8, .int .u8, .int .u8, .int .i8])] (by kernel_rfl) hval0 hA0 (fun g cs h => by cases h) spec_all
  refine hc.mono fun e W' ⟨he, hb⟩ => ?_
  subst he
  rw [show Try.f4.params.size = 3 by kernel_rfl] at hl
  obtain ⟨d0, d1, d2, rfl⟩ : ∃ d0 d1 d2, ds = [d0, d1, d2] := by
    match ds, hl with
    | [a0, a1, a2], _ => exact ⟨a0, a1, a2, rfl⟩
  exact ⟨_, rfl, law_post laidOut (by kernel_rfl) (by kernel_rfl) Try.underlying4 rfl rfl hW' hb⟩

theorem law_holds : Rows.OplogComposesSaid :=
  OpenClaim.holds_of_wide 4 Try.f4 rfl rfl rfl rfl rfl rfl rfl ⟨rfl, rfl, rfl, rfl, rfl⟩ rfl rfl rfl rfl rfl (by kernel_rfl) Try.func4 (by kernel_rfl)
    (of_decide_eq_true (by kernel_rfl)) (by unfold Func.isWrapper; first | (rw [if_pos (by decide +kernel)]; kernel_rfl) | (rw [if_neg (by decide +kernel)]; exact ⟨rfl, rfl⟩))
    (fun os started H enc _ => law_lifted os started H enc)
#print axioms law_holds
end Go.Proofs.Ytfhcmibgpddggaa
