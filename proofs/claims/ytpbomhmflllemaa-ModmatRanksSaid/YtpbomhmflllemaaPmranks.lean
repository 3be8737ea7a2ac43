/- 'ModmatRanks' returns true for every input, and each argument reads afterwards as it read before. No conditions. -/
import Derived.Test.YtpbomhmflllemaaRows
import Derived.Test.YtpbomhmflllemaaZi
set_option linter.all false

namespace Go.Proofs.Ytpbomhmflllemaa
open Go.ChangeShapes Go.WideShapes Go.ChangeAt Go.RowKit

set_option maxRecDepth 20000 in
set_option maxHeartbeats 8000000 in
theorem ranks_s {p n w kp kc : Nat} {M L : List (List Nat)} (hm : Mm p n w M) (m1 : Spec Try.prog 12 [rawV kp kc L] (md p w M)) :
    Spec Try.prog 6 [rawV kp kc L] (.sc (.bool true)) := by
  obtain ⟨hp, hle, hpr, hM, hn, hw⟩ := hm
  have hp1 := hp.1
  have hne : NeZero p := ⟨by omega⟩
  have cs := sanity_s pr5
  have c1 := rank_s hpr hp hle hM (by omega) (by omega)
  have c2 := rturned_s hM (by omega) (by omega)
  have hT := turnL_mv hM
  have c3 := rank_s hpr hp hle hT (by omega) (by omega)
  have c4 := left_s hpr hp hle hM (by omega) (by omega)
  have f1 := turn_rank hp hM
  have f2 := (rank_le hp hM).1
  have f3 := nullity hp hM
  have hl := hM.1
  rw [f1] at c3
  unfold rawV at *
  unfold md mv at *
  generalize (rrefL p w M).2.length = r at *
  generalize leftL p w M = K0 at *
  have q1 : decide ((0 : Int) ≤ (r : Int)) = true := decide_eq_true (by omega)
  have q1' : decide ((r : Int) ≥ 0) = true := decide_eq_true (by omega)
  have q2 : decide ((r : Int) ≤ (w : Int)) = true := decide_eq_true (by omega)
  have q3 : (((r : Int) + (K0.length : Int)) == (M.length : Int)) = true := by rw [beq_iff_eq]; omega
  refine Spec.run Try.func6 rfl Try.ntmps6 (by simp) (by simp (disch := omega) only [go_sem]; rfl) fun B hB => ?_
  (repeat (first | refine DO.nil (by kernel_rfl) ?_ | (with_reducible first | apply oz1 | apply oz2 | apply oz3 | apply oz4 | apply oz5 | apply oz6 | apply oz7 | apply oz8 | apply oz9 | apply ozb | apply ozc | apply oze | apply ozf | apply ozg | apply ozh | apply ozi | apply ozj | apply ozk | refine ozd (by decide) ?_) | ((first | apply SO.call | apply DO.call); (iterate 3 (focus (simp (disch := omega) only [go_sem, ↓reduceIte, Nat.reduceEqDiff, beq_self_eq_true] <;> rfl))); (first | apply SCall.ofX | apply DCall.ofX); (focus (first | assumption)); (focus (simp (disch := omega) only [go_sem] <;> rfl))) | ((with_reducible first | apply SC.condB | apply SC.region | apply SO.run | apply DO.run); (focus (simp (disch := omega) only [go_sem, ↓reduceIte, Nat.reduceEqDiff, Nat.reduceLT, Nat.reduceLeDiff, Nat.reduceAdd, reduceCtorEq, beq_self_eq_true, q1, q2, q3] <;> rfl)); (first | refine pickT ?_ | refine pickF ?_ | fail_if_success with_reducible refine pickA ?_)) | ((with_reducible refine SC.draw Tab.mixed ?_ ?_); (focus (first | rfl | simp (disch := omega) only [go_sem, ↓reduceIte, Nat.reduceEqDiff, Nat.reduceLT, Nat.reduceLeDiff, Nat.reduceAdd, Nat.reduceMul, Nat.reduceSub, reduceCtorEq, Nat.reduceBEq, Int.reduceToNat, Int.reducePow, if_pos, if_neg, beq_self_eq_true, q1, q1', q2, q3]))) | (with_reducible apply SC.ops)))
  exact retQ_ret Try.results6 (by simp (disch := omega) only [go_sem, ↓reduceIte]; rfl) (by simp (disch := omega) only [go_sem]; rfl) rfl

theorem spec_all (xs : List V) (h : Shp.Vals [.st [.int .u8, .int .u8, .slc (.slc (.int .u32))]] xs) : Spec Try.prog 6 xs (.sc (.bool true)) := by
  obtain ⟨x0, ys0, rfl, h0, rfl⟩ := h
  obtain ⟨p, n, w, M, kp, kc, L, hm, rfl, m1⟩ := made_val h0
  exact ranks_s hm m1

theorem own : ownKnob Try.prog.godebug = none := by kernel_rfl
theorem laidOut : laidOutB Try.prog = true := by kernel_rfl

set_option maxRecDepth 100000 in
theorem law_lifted (os : Os) (started : os.Started) (H : Type) (enc : TypeId × Value → H) :
    ReturnsInHanded {} Try.checked os 6 .any (Rows.modmatRanksSpec.pre6 enc Try.prog Try.f6 Rows.modmatRanksRow.domain false) (Rows.modmatRanksSpec.post enc Try.prog Try.f6 false true false false) := by
  refine returnsInHanded_of_change (C := Try.checked) own started (by kernel_rfl) Try.func6
    (ChangeSpec.witness6 (enc := enc) (C := Try.checked) false ⟨#[], #[.agg #[.int .u8 0, .int .u8 0, .slice none 0 0]], []⟩ 8 (by kernel_rfl) (by kernel_rfl) (by kernel_rfl) (by kernel_rfl)) ?_
  intro W base args ds gs before hval0 hW hcnd _
  have hW' := hW
  obtain ⟨p, q, hA0, hV, rfl, hfz, hnd⟩ := hW
  obtain ⟨hl, hc⟩ := law_calls (enc := enc) [.st [.int .u8, .int .u8, .slc (.slc (.int .u32))]] (by kernel_rfl) hval0 hA0 (fun g cs h => by cases h) spec_all
  refine hc.mono fun e W' ⟨he, hb⟩ => ?_
  subst he
  rw [show Try.f6.params.size = 1 by kernel_rfl] at hl
  obtain ⟨d0, rfl⟩ : ∃ d0, ds = [d0] := by
    match ds, hl with
    | [a0], _ => exact ⟨a0, rfl⟩
  exact ⟨_, rfl, law_post laidOut (by kernel_rfl) (by kernel_rfl) Try.underlying4 rfl rfl hW' hb⟩

theorem law_holds : Rows.ModmatRanksSaid :=
  OpenClaim.holds_of_wide 6 Try.f6 rfl rfl rfl rfl rfl rfl rfl ⟨rfl, rfl, rfl, rfl, rfl⟩ rfl rfl rfl rfl rfl (by kernel_rfl) Try.func6 (by kernel_rfl)
    (of_decide_eq_true (by kernel_rfl)) (by unfold Func.isWrapper; first | (rw [if_pos (by decide +kernel)]; kernel_rfl) | (rw [if_neg (by decide +kernel)]; exact ⟨rfl, rfl⟩))
    (fun os started H enc _ => law_lifted os started H enc)
#print axioms law_holds
end Go.Proofs.Ytpbomhmflllemaa
