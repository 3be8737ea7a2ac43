/- 'OplogCompacts' returns true for every input, and each argument reads afterwards as it read before. No conditions. -/
import Derived.Test.YtfhcmibgpddggaaRows
import Derived.Test.YtfhcmibgpddggaaZm
import Derived.Test.YtfhcmibgpddggaaZp
set_option linter.all false
open Nat renaming reduceEqDiff → zn1, reduceLT → zn2, reduceLeDiff → zn3, reduceAdd → zn4, reduceMul → zn5, reduceSub → zn6, reduceBEq → zn7
open Int renaming reduceToNat → zi1, reducePow → zi2

namespace Go.Proofs.Ytfhcmibgpddggaa
open Go.ChangeShapes Go.WideShapes Go.ChangeAt Go.RowKit
set_option maxRecDepth 20000 in
set_option maxHeartbeats 8000000 in
theorem lcompacts_s {n h : Nat} {l : List OpL} {Y : V} (hh : h < 5) (hn : (n : Int).tmod 5 = (h : Int)) (hn2 : n < 256) (hl : ∀ o ∈ l, OkOp h o) (hk : KB 128 l) (hlen : l.length ≤ 10) (hY : ∃ cs n, Y = .im cs n)
    (x2 : Spec Try.prog 9 [Y, .sc (.int .i64 h), .sc (.int .i64 10)] (.im (opsC l) l.length)) :
    Spec Try.prog 5 [.sc (.int .u8 n), Y] (.sc (.bool true)) := by
  have cs := sanity_s
  have hi := invL_ok hl
  have hil := invL_len l
  have hcl := comp_len l
  obtain ⟨ok, kb⟩ := comp_ok hl hk (by omega) (by omega)
  have hI := idL_mi (n := h)
  have hA := acts_mi hI hl
  have c1 := compact_s hl hk (by omega) (by omega)
  have c2 := lvalid_s ok (by omega)
  have c3 := lmatrix_s hl (by omega) (by omega)
  have c4 := lmatrix_s ok (by omega) (by omega)
  rw [comp_acts hI hl hk (by omega) (by omega)] at c4
  have c5 := linv_s hl (by omega)
  have c6 := isame_s hA (by omega) (by omega) (by omega)
  have c7 := compact_s ok kb (by omega) (by have : 128 * l.length ≤ 128 * 10 := Nat.mul_le_mul (Nat.le_refl _) hlen; omega)
  rw [comp_comp] at c7
  have c8 := lsame_s (l := compL l) (fun o ho => (ok o ho).k) (by omega)
  have hlk : ∀ o ∈ l ++ invL l, OkOp h o := fun o ho => (List.mem_append.1 ho).elim (hl o) (hi o)
  have hkk : KB 128 (l ++ invL l) := fun o ho => (List.mem_append.1 ho).elim (hk o) (kb_inv hk o)
  have c9 := compact_s hlk hkk (by rw [List.length_append, hil]; omega) (by omega)
  rw [comp_twice hl, opsC_app, List.length_append, hil] at c9
  have c10 : Spec Try.prog 18 [.im (opsC l ++ opsC (invL l)) (l.length + l.length)] (.im [] 0) := c9
  have g1 := opsC_len l
  have g2 := opsC_len (invL l)
  rw [hil] at g2
  rw [Nat.mul_comm] at g1 g2
  have e1 := opsC_one l
  have e2 := opsC_one (invL l)
  have f1 := opsC_clo l
  have f2 := opsC_clo (invL l)
  have l1 := hA.len
  have q1 : decide ((l.length : Int) < ((compL l).length : Int)) = false := decide_eq_false (by omega)
  obtain ⟨ys, yn, rfl⟩ := hY
  clear c9 ok kb hl hk hi hil hlk hkk hA hI
  generalize actsO (idL h) l = P at *
  generalize opsC (invL l) = li at *
  generalize opsC (compL l) = cl at *
  generalize (compL l).length = m at *
  generalize opsC l = lo at *
  generalize l.length = z at *
  have t1 : lo.take (z * 5) = lo := List.take_of_length_le (by omega)
  have t2 : (lo ++ li).length = (z + z) * 5 := by rw [List.length_append]; omega
  have t3 : (lo ++ li).take ((z + z) * 5) = lo ++ li := List.take_of_length_le (by omega)
  have t4 : (lo ++ li).all clo = true := by rw [List.all_append, f1, f2]; rfl
  unfold mat at *
  simp only [l1] at c3 c4 c6
  refine Spec.run Try.func5 rfl Try.ntmps5 (by simp) (by simp (disch := omega) only [go_sem, zn4]; rfl) fun B hB => ?_
  (repeat (first | refine DO.nil (by kernel_rfl) ?_ | (with_reducible first | apply oz1 | apply oz2 | apply oz3 | apply oz4 | apply oz5 | apply oz6 | apply oz7 | apply oz8 | apply oz9 | apply ozb | apply ozc | apply oze | apply ozf | apply ozg | apply ozh | apply ozi | apply ozj | apply ozk | refine ozd (by decide) ?_) | ((first | apply SO.call | apply DO.call); (iterate 3 (focus (simp (disch := omega) only [go_sem, ↓reduceIte, zn1, if_pos, beq_self_eq_true, t2, t3, t4] <;> rfl))); (first | apply SCall.ofX | apply DCall.ofX); (focus (first | assumption)); (focus (simp (disch := omega) only [go_sem, ↓reduceIte, zn7, beq_self_eq_true] <;> rfl))) | ((with_reducible first | apply SC.condB | apply SC.region | apply SO.run | apply DO.run); (focus (simp (disch := omega) only [go_sem, ↓reduceIte, zn1, zn2, zn3, zn4, reduceCtorEq, if_pos, if_neg, hn, beq_self_eq_true, g1, g2, e1, e2, t1, q1, Bool.not_true] <;> rfl)); (first | refine pickT ?_ | refine pickF ?_ | fail_if_success with_reducible refine pickA ?_)) | ((with_reducible refine SC.draw Tab.mixed ?_ ?_); (focus (first | rfl | simp (disch := omega) only [go_sem, ↓reduceIte, zn1, zn2, zn3, zn4, zn5, zn6, reduceCtorEq, zn7, zi1, zi2, if_pos, if_neg, hn, bne_self_eq_false, beq_self_eq_true, g1, g2, e1, e2, t1, t2, t3, t4, q1, Bool.not_true]))) | (with_reducible apply SC.ops)))
  exact retQ_ret Try.results5 (by simp (disch := omega) only [go_sem, ↓reduceIte]; rfl) (by simp (disch := omega) only [go_sem]; rfl) rfl
theorem spec_all (xs : List V) (h : Shp.Vals [.int .u8, .slc (.st [.int .u8, .int .u8, .int .u8, .int .i8])] xs) : Spec Try.prog 5 xs (.sc (.bool true)) := by
  obtain ⟨x0, ys0, rfl, ⟨n, rfl, hn⟩, x1, ys1, rfl, h1, rfl⟩ := h
  obtain ⟨a, rfl, ha⟩ := wf_nat u8_wf hn
  obtain ⟨m, rfl, hm, hl2⟩ := mv_val h1
  have hr : a % 5 < 5 := Nat.mod_lt _ (by omega)
  exact lcompacts_s hr (by rw [Int.tmod_eq_emod_of_nonneg (by omega)]; simp) (by omega) (madeL_ok hm) (madeL_kb hm) madeL_len ⟨_, _, rfl⟩ (lmade_s (m := 10) (by omega) (by decide) hm hl2)
theorem own : ownKnob Try.prog.godebug = none := by kernel_rfl
theorem laidOut : laidOutB Try.prog = true := by kernel_rfl
set_option maxRecDepth 100000 in
theorem law_lifted (os : Os) (started : os.Started) (H : Type) (enc : TypeId × Value → H) :
    ReturnsInHanded {} Try.checked os 5 .any (Rows.oplogCompactsSpec.pre6 enc Try.prog Try.f5 Rows.oplogCompactsRow.domain false) (Rows.oplogCompactsSpec.post enc Try.prog Try.f5 false true false false) := by
  refine returnsInHanded_of_change (C := Try.checked) own started (by kernel_rfl) Try.func5
    (ChangeSpec.witness6 (enc := enc) (C := Try.checked) false ⟨#[], #[.int .u8 0, .slice none 0 0], []⟩ 8 (by kernel_rfl) (by kernel_rfl) (by kernel_rfl) (by kernel_rfl)) ?_
  intro W base args ds gs before hval0 hW hcnd _
  have hW' := hW
  obtain ⟨p, q, hA0, hV, rfl, hfz, hnd⟩ := hW
  obtain ⟨hl, hc⟩ := law_calls (enc := enc) [.int .u8, .slc (.st [.int .u8, .int .u8, .int .u8, .int .i8])] (by kernel_rfl) hval0 hA0 (fun g cs h => by cases h) spec_all
  refine hc.mono fun e W' ⟨he, hb⟩ => ?_
  subst he
  rw [show Try.f5.params.size = 2 by kernel_rfl] at hl
  obtain ⟨d0, d1, rfl⟩ : ∃ d0 d1, ds = [d0, d1] := by
    match ds, hl with
    | [a0, a1], _ => exact ⟨a0, a1, rfl⟩
  exact ⟨_, rfl, law_post laidOut (by kernel_rfl) (by kernel_rfl) Try.underlying4 rfl rfl hW' hb⟩
theorem law_holds : Rows.OplogCompactsSaid :=
  OpenClaim.holds_of_wide 5 Try.f5 rfl rfl rfl rfl rfl rfl rfl ⟨rfl, rfl, rfl, rfl, rfl⟩ rfl rfl rfl rfl rfl (by kernel_rfl) Try.func5 (by kernel_rfl)
    (of_decide_eq_true (by kernel_rfl)) (by unfold Func.isWrapper; first | (rw [if_pos (by decide +kernel)]; kernel_rfl) | (rw [if_neg (by decide +kernel)]; exact ⟨rfl, rfl⟩))
    (fun os started H enc _ => law_lifted os started H enc)
#print axioms law_holds
end Go.Proofs.Ytfhcmibgpddggaa
