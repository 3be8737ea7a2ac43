/- 'WireSalvages' returns true for every input, and its argument reads afterwards as it read before. No conditions. -/
import Derived.Test.YtphilljhfdlfdaaRows
import Derived.Test.YtphilljhfdlfdaaZj
import Derived.Test.YtphilljhfdlfdaaZk
set_option linter.all false
open Nat renaming reduceEqDiff → zn1, reduceLT → zn2, reduceLeDiff → zn3, reduceAdd → zn4, reduceMul → zn5, reduceSub → zn6, reduceBEq → zn7
open Int renaming reduceToNat → zi1, reducePow → zi2

namespace Go.Proofs.Ytphilljhfdlfdaa
open Go.ChangeShapes Go.WideShapes Go.ChangeAt Go.RowKit
theorem spec_all (xs : List V) (h : Shp.Vals [.st [.int .i64, .slc (.st [.int .i64, .int .i64, .slc (.st [.int .i64, .st [.bool, .slc (.int .u32)]])]), .slc (.st [.int .i64, .st [.int .i64, .int .i64, .slc (.st [.int .i64, .st [.bool, .slc (.int .u32)]])], .int .i64, .int .i64, .arr 2 (.int .i64)])]] xs) : Spec Try.prog 5 xs (.sc (.bool true)) := by
  obtain ⟨x0, ys0, rfl, h0, rfl⟩ := h
  obtain ⟨x, rfl, hx, hi⟩ := hist_val h0
  exact wsalv_s hx hi
theorem own : ownKnob Try.prog.godebug = none := by kernel_rfl
theorem laidOut : laidOutB Try.prog = true := by kernel_rfl
set_option maxRecDepth 100000 in
theorem law_lifted (os : Os) (started : os.Started) (H : Type) (enc : TypeId × Value → H) :
    ReturnsInHanded {} Try.checked os 5 .any (Rows.wireSalvagesSpec.pre6 enc Try.prog Try.f5 Rows.wireSalvagesRow.domain false) (Rows.wireSalvagesSpec.post enc Try.prog Try.f5 false true false false) := by
  refine returnsInHanded_of_change (C := Try.checked) own started (by kernel_rfl) Try.func5
    (ChangeSpec.witness6 (enc := enc) (C := Try.checked) false ⟨#[], #[.agg #[.int .i64 0, .slice none 0 0, .slice none 0 0]], []⟩ 8 (by kernel_rfl) (by kernel_rfl) (by kernel_rfl) (by kernel_rfl)) ?_
  intro W base args ds gs before hval0 hW hcnd _
  have hW' := hW
  obtain ⟨p, q, hA0, hV, rfl, hfz, hnd⟩ := hW
  obtain ⟨hl, hc⟩ := law_calls (enc := enc) [.st [.int .i64, .slc (.st [.int .i64, .int .i64, .slc (.st [.int .i64, .st [.bool, .slc (.int .u32)]])]), .slc (.st [.int .i64, .st [.int .i64, .int .i64, .slc (.st [.int .i64, .st [.bool, .slc (.int .u32)]])], .int .i64, .int .i64, .arr 2 (.int .i64)])]] (by kernel_rfl) hval0 hA0 (fun g cs h => by cases h) spec_all
  refine hc.mono fun e W' ⟨he, hb⟩ => ?_
  subst he
  rw [show Try.f5.params.size = 1 by kernel_rfl] at hl
  obtain ⟨d0, rfl⟩ : ∃ d0, ds = [d0] := by
    match ds, hl with
    | [a0], _ => exact ⟨a0, rfl⟩
  exact ⟨_, rfl, law_post laidOut (by kernel_rfl) (by kernel_rfl) Try.underlying4 rfl rfl hW' hb⟩
theorem law_holds : Rows.WireSalvagesSaid :=
  OpenClaim.holds_of_wide 5 Try.f5 rfl rfl rfl rfl rfl rfl rfl ⟨rfl, rfl, rfl, rfl, rfl⟩ rfl rfl rfl rfl rfl (by kernel_rfl) Try.func5 (by kernel_rfl)
    (of_decide_eq_true (by kernel_rfl)) (by unfold Func.isWrapper; first | (rw [if_pos (by decide +kernel)]; kernel_rfl) | (rw [if_neg (by decide +kernel)]; exact ⟨rfl, rfl⟩))
    (fun os started H enc _ => law_lifted os started H enc)
#print axioms law_holds
end Go.Proofs.Ytphilljhfdlfdaa
