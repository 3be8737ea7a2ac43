/- 'ModmatMatchesReference' returns true for every input, and each argument reads afterwards as it read before. No conditions. -/
import Derived.Test.YtpbomhmflllemaaRows
import Derived.Test.YtpbomhmflllemaaZi
set_option linter.all false

namespace Go.Proofs.Ytpbomhmflllemaa
open Go.ChangeShapes Go.WideShapes Go.ChangeAt Go.RowKit

set_option maxRecDepth 20000 in
set_option maxHeartbeats 8000000 in
theorem mmatch_s {p n w kp kc : Nat} {M L : List (List Nat)} (hm : Mm p n w M) (m1 : Spec Try.prog 12 [rawV kp kc L] (md p w M)) :
    Spec Try.prog 3 [rawV kp kc L] (.sc (.bool true)) := by
  have c5 := det_any hm
  have c6 := rdet_any hm
  obtain ⟨hp, hle, hpr, hM, hn, hw⟩ := hm
  have hp1 := hp.1
  have hne : NeZero p := ⟨by omega⟩
  have cs := sanity_s pr5
  have hl := hM.1
  have c1 := rcopied_s hM (by omega) (by omega)
  have c2 := rref_s hpr hp hle hM (by omega) (by omega)
  have c3 := rrref_s hp hle hM (by omega) (by omega)
  have c4 := rank_s hpr hp hle hM (by omega) (by omega)
  have c7 := left_s hpr hp hle hM (by omega) (by omega)
  have c8 := rleft_s hp hle hM (by omega) (by omega)
  rw [refLeftL_eq hp hM] at c8
  have hR := (rrefL_form hp hM).1.mv
  have hrk := rank_le hp hM
  obtain ⟨⟨pv, hF⟩, _, _⟩ := leftL_spec hp hM
  have hK := hF.mv
  have hKn := nullity hp hM
  have hKl := hK.1
  have c9 := rsame_t hM (by omega) (by omega)
  have c10 := rvalid_t hp (by omega) hR (by omega) (by omega)
  have c11 := rvalid_t hp (by omega) hK (by omega) (by omega)
  have c12 := rsame_t hR (by omega) (by omega)
  have c13 := rsame_t hK (by omega) (by omega)
  have c14 := ints_t (l := (rrefL p w M).2) (by omega)
  unfold rawV at *
  unfold md mv at *
  generalize leftL p w M = K0 at *
  generalize (rrefL p w M).1 = E1 at *
  generalize (rrefL p w M).2 = E2 at *
  generalize (detV p n w M).1 = d1 at *
  generalize (detV p n w M).2 = d2 at *
  refine Spec.run Try.func3 rfl Try.ntmps3 (by simp) (by simp (disch := omega) only [go_sem]; rfl) fun B hB => ?_
  (repeat (first | refine DO.nil (by kernel_rfl) ?_ | (with_reducible first | apply oz1 | apply oz2 | apply oz3 | apply oz4 | apply oz5 | apply oz6 | apply oz7 | apply oz8 | apply oz9 | apply ozb | apply ozc | apply oze | apply ozf | apply ozg | apply ozh | apply ozi | apply ozj | apply ozk | refine ozd (by decide) ?_) | ((first | apply SO.call | apply DO.call); (iterate 3 (focus (simp (disch := omega) only [go_sem, ↓reduceIte, Nat.reduceEqDiff, beq_self_eq_true] <;> rfl))); (first | apply SCall.ofX | apply DCall.ofX); (focus (first | assumption)); (focus (simp (disch := omega) only [go_sem] <;> rfl))) | ((with_reducible first | apply SC.condB | apply SC.region | apply SO.run | apply DO.run); (focus (simp (disch := omega) only [go_sem, ↓reduceIte, Nat.reduceEqDiff, Nat.reduceLT, Nat.reduceLeDiff, Nat.reduceAdd, beq_self_eq_true] <;> rfl)); (first | refine pickT ?_ | refine pickF ?_ | fail_if_success with_reducible refine pickA ?_)) | ((with_reducible refine SC.draw Tab.mixed ?_ ?_); (focus (first | rfl | simp (disch := omega) only [go_sem, ↓reduceIte, Nat.reduceEqDiff, Nat.reduceLT, Nat.reduceLeDiff, Nat.reduceAdd, Nat.reduceMul, Nat.reduceSub, reduceCtorEq, Nat.reduceBEq, Int.reduceToNat, Int.reducePow, if_pos, if_neg, beq_self_eq_true]))) | (with_reducible apply SC.ops)))
  exact retQ_ret Try.results3 (by simp (disch := omega) only [go_sem, ↓reduceIte]; rfl) (by simp (disch := omega) only [go_sem]; rfl) rfl

theorem spec_all (xs : List V) (h : Shp.Vals [.st [.int .u8, .int .u8, .slc (.slc (.int .u32))]] xs) : Spec Try.prog 3 xs (.sc (.bool true)) := by
  obtain ⟨x0, ys0, rfl, h0, rfl⟩ := h
  obtain ⟨p, n, w, M, kp, kc, L, hm, rfl, m1⟩ := made_val h0
  exact mmatch_s hm m1

theorem own : ownKnob Try.prog.godebug = none := by kernel_rfl
theorem laidOut : laidOutB Try.prog = true := by kernel_rfl

set_option maxRecDepth 100000 in
theorem law_lifted (os : Os) (started : os.Started) (H : Type) (enc : TypeId × Value → H) :
    ReturnsInHanded {} Try.checked os 3 .any (Rows.modmatMatchesReferenceSpec.pre6 enc Try.prog Try.f3 Rows.modmatMatchesReferenceRow.domain false) (Rows.modmatMatchesReferenceSpec.post enc Try.prog Try.f3 false true false false) := by
  refine returnsInHanded_of_change (C := Try.checked) own started (by kernel_rfl) Try.func3
    (ChangeSpec.witness6 (enc := enc) (C := Try.checked) false ⟨#[], #[.agg #[.int .u8 0, .int .u8 0, .slice none 0 0]], []⟩ 8 (by kernel_rfl) (by kernel_rfl) (by kernel_rfl) (by kernel_rfl)) ?_
  intro W base args ds gs before hval0 hW hcnd _
  have hW' := hW
  obtain ⟨p, q, hA0, hV, rfl, hfz, hnd⟩ := hW
  obtain ⟨hl, hc⟩ := law_calls (enc := enc) [.st [.int .u8, .int .u8, .slc (.slc (.int .u32))]] (by kernel_rfl) hval0 hA0 (fun g cs h => by cases h) spec_all
  refine hc.mono fun e W' ⟨he, hb⟩ => ?_
  subst he
  rw [show Try.f3.params.size = 1 by kernel_rfl] at hl
  obtain ⟨d0, rfl⟩ : ∃ d0, ds = [d0] := by
    match ds, hl with
    | [a0], _ => exact ⟨a0, rfl⟩
  exact ⟨_, rfl, law_post laidOut (by kernel_rfl) (by kernel_rfl) Try.underlying4 rfl rfl hW' hb⟩

theorem law_holds : Rows.ModmatMatchesReferenceSaid :=
  OpenClaim.holds_of_wide 3 Try.f3 rfl rfl rfl rfl rfl rfl rfl ⟨rfl, rfl, rfl, rfl, rfl⟩ rfl rfl rfl rfl rfl (by kernel_rfl) Try.func3 (by kernel_rfl)
    (of_decide_eq_true (by kernel_rfl)) (by unfold Func.isWrapper; first | (rw [if_pos (by decide +kernel)]; kernel_rfl) | (rw [if_neg (by decide +kernel)]; exact ⟨rfl, rfl⟩))
    (fun os started H enc _ => law_lifted os started H enc)
#print axioms law_holds
end Go.Proofs.Ytpbomhmflllemaa
