/- 'ModmatChanges' returns true for every input, and each argument reads afterwards as it read before. No conditions. -/
import Derived.Test.YtpbomhmflllemaaRows
import Derived.Test.YtpbomhmflllemaaZi
set_option linter.all false

namespace Go.Proofs.Ytpbomhmflllemaa
open Go.ChangeShapes Go.WideShapes Go.ChangeAt Go.RowKit

def chV (what i k c : Nat) : V := .ag [.sc (.int .u8 what), .sc (.int .u8 i), .sc (.int .u8 k), .sc (.int .u32 c)]
theorem ch_val {x : V} (h : (Shp.st [.int .u8, .int .u8, .int .u8, .int .u32]).Val x) : ∃ what i k c : Nat, x = chV what i k c ∧ what ≤ 255 ∧ i ≤ 255 ∧ k ≤ 255 ∧ c ≤ 4294967295 := by
  obtain ⟨ys, rfl, a, b, rfl, ⟨n, rfl, hn⟩, c, d, rfl, ⟨m, rfl, hm⟩, e, f, rfl, ⟨q, rfl, hq⟩, g, r, rfl, ⟨t, rfl, ht⟩, rfl⟩ := h
  obtain ⟨n, rfl, h1⟩ := wf_nat u8_wf hn
  obtain ⟨m, rfl, h2⟩ := wf_nat u8_wf hm
  obtain ⟨q, rfl, h3⟩ := wf_nat u8_wf hq
  obtain ⟨t, rfl, h4⟩ := wf_nat u32_wf ht
  exact ⟨n, m, q, t, rfl, h1, h2, h3, h4⟩

set_option maxRecDepth 20000 in
set_option maxHeartbeats 8000000 in
theorem mchanges_s {p n w kp kc what i k c : Nat} {M L : List (List Nat)} (hm : Mm p n w M) (m1 : Spec Try.prog 12 [rawV kp kc L] (md p w M)) (h1 : what ≤ 255) (h2 : i ≤ 255) (h3 : k ≤ 255) (h4 : c ≤ 4294967295) :
    Spec Try.prog 5 [rawV kp kc L, chV what i k c] (.sc (.bool true)) := by
  obtain ⟨hp, hle, hpr, hM, hn, hw⟩ := hm
  have hp1 := hp.1
  have hne : NeZero p := ⟨by omega⟩
  have cs := sanity_s pr5
  have hl := hM.1
  have c1 := rref_s hpr hp hle hM (by omega) (by omega)
  have c2 := changed_s (c := c) hp hle hM (by omega) (by omega) h1 h2 h3 h4
  obtain ⟨n', hM', hn', _⟩ := change_mv (what := what) (i := i) (k := k) (c := c) (by omega) hM
  have hS := change_same (what := what) (i := i) (k := k) (c := c) hp hM
  have hE := rrefL_same hp hM hM' hS
  generalize changeL p M what i k c = M' at *
  have c3 := rref_s hpr hp hle hM' (by omega) (by omega)
  have c4 := rank_s hpr hp hle hM' (by omega) (by omega)
  rw [← hE] at c3 c4
  obtain ⟨hF, _⟩ := rrefL_form hp hM
  have hrk := rank_le hp hM
  have hself := rrefL_self hp hF
  generalize rrefL p w M = E at *
  obtain ⟨E1, E2⟩ := E
  simp only at *
  have hR := hF.mv
  have c5 := rvalid_t hp (by omega) hR (by omega) (by omega)
  have c6 := rref_s hpr hp hle hR (by omega) (by omega)
  rw [hself] at c6
  have c7 := rsame_t hR (by omega) (by omega)
  have c8 := ints_t (l := E2) (by omega)
  unfold rawV chV at *
  unfold md mv at *
  simp only at c6
  refine Spec.run Try.func5 rfl Try.ntmps5 (by simp) (by simp (disch := omega) only [go_sem, Nat.reduceAdd]; rfl) fun B hB => ?_
  (repeat (first | refine DO.nil (by kernel_rfl) ?_ | (with_reducible first | apply oz1 | apply oz2 | apply oz3 | apply oz4 | apply oz5 | apply oz6 | apply oz7 | apply oz8 | apply oz9 | apply ozb | apply ozc | apply oze | apply ozf | apply ozg | apply ozh | apply ozi | apply ozj | apply ozk | refine ozd (by decide) ?_) | ((first | apply SO.call | apply DO.call); (iterate 3 (focus (simp (disch := omega) only [go_sem, ↓reduceIte, Nat.reduceEqDiff, beq_self_eq_true] <;> rfl))); (first | apply SCall.ofX | apply DCall.ofX); (focus (first | assumption)); (focus (simp (disch := omega) only [go_sem] <;> rfl))) | ((with_reducible first | apply SC.condB | apply SC.region | apply SO.run | apply DO.run); (focus (simp (disch := omega) only [go_sem, ↓reduceIte, Nat.reduceEqDiff, Nat.reduceLT, Nat.reduceLeDiff, Nat.reduceAdd, reduceCtorEq, bne_self_eq_false, beq_self_eq_true] <;> rfl)); (first | refine pickT ?_ | refine pickF ?_ | fail_if_success with_reducible refine pickA ?_)) | ((with_reducible refine SC.draw Tab.mixed ?_ ?_); (focus (first | rfl | simp (disch := omega) only [go_sem, ↓reduceIte, Nat.reduceEqDiff, Nat.reduceLT, Nat.reduceLeDiff, Nat.reduceAdd, Nat.reduceMul, Nat.reduceSub, reduceCtorEq, Nat.reduceBEq, Int.reduceToNat, Int.reducePow, if_pos, if_neg, bne_self_eq_false, beq_self_eq_true]))) | (with_reducible apply SC.ops)))
  exact retQ_ret Try.results5 (by simp (disch := omega) only [go_sem, ↓reduceIte]; rfl) (by simp (disch := omega) only [go_sem]; rfl) rfl

theorem spec_all (xs : List V) (h : Shp.Vals [.st [.int .u8, .int .u8, .slc (.slc (.int .u32))], .st [.int .u8, .int .u8, .int .u8, .int .u32]] xs) : Spec Try.prog 5 xs (.sc (.bool true)) := by
  obtain ⟨x0, ys0, rfl, h0, x1, ys1, rfl, h1, rfl⟩ := h
  obtain ⟨p, n, w, M, kp, kc, L, hm, rfl, m1⟩ := made_val h0
  obtain ⟨what, i, k, c, rfl, a1, a2, a3, a4⟩ := ch_val h1
  exact mchanges_s hm m1 a1 a2 a3 a4

theorem own : ownKnob Try.prog.godebug = none := by kernel_rfl
theorem laidOut : laidOutB Try.prog = true := by kernel_rfl

set_option maxRecDepth 100000 in
theorem law_lifted (os : Os) (started : os.Started) (H : Type) (enc : TypeId × Value → H) :
    ReturnsInHanded {} Try.checked os 5 .any (Rows.modmatChangesSpec.pre6 enc Try.prog Try.f5 Rows.modmatChangesRow.domain false) (Rows.modmatChangesSpec.post enc Try.prog Try.f5 false true false false) := by
  refine returnsInHanded_of_change (C := Try.checked) own started (by kernel_rfl) Try.func5
    (ChangeSpec.witness6 (enc := enc) (C := Try.checked) false ⟨#[], #[.agg #[.int .u8 0, .int .u8 0, .slice none 0 0], .agg #[.int .u8 0, .int .u8 0, .int .u8 0, .int .u32 0]], []⟩ 8 (by kernel_rfl) (by kernel_rfl) (by kernel_rfl) (by kernel_rfl)) ?_
  intro W base args ds gs before hval0 hW hcnd _
  have hW' := hW
  obtain ⟨p, q, hA0, hV, rfl, hfz, hnd⟩ := hW
  obtain ⟨hl, hc⟩ := law_calls (enc := enc) [.st [.int .u8, .int .u8, .slc (.slc (.int .u32))], .st [.int .u8, .int .u8, .int .u8, .int .u32]] (by kernel_rfl) hval0 hA0 (fun g cs h => by cases h) spec_all
  refine hc.mono fun e W' ⟨he, hb⟩ => ?_
  subst he
  rw [show Try.f5.params.size = 2 by kernel_rfl] at hl
  obtain ⟨d0, d1, rfl⟩ : ∃ d0 d1, ds = [d0, d1] := by
    match ds, hl with
    | [a0, a1], _ => exact ⟨a0, a1, rfl⟩
  exact ⟨_, rfl, law_post laidOut (by kernel_rfl) (by kernel_rfl) Try.underlying4 rfl rfl hW' hb⟩

theorem law_holds : Rows.ModmatChangesSaid :=
  OpenClaim.holds_of_wide 5 Try.f5 rfl rfl rfl rfl rfl rfl rfl ⟨rfl, rfl, rfl, rfl, rfl⟩ rfl rfl rfl rfl rfl (by kernel_rfl) Try.func5 (by kernel_rfl)
    (of_decide_eq_true (by kernel_rfl)) (by unfold Func.isWrapper; first | (rw [if_pos (by decide +kernel)]; kernel_rfl) | (rw [if_neg (by decide +kernel)]; exact ⟨rfl, rfl⟩))
    (fun os started H enc _ => law_lifted os started H enc)
#print axioms law_holds
end Go.Proofs.Ytpbomhmflllemaa
