/- 'ModularReduces' returns true for every input, and each argument reads afterwards as it read before. No conditions. -/
import Derived.Test.YtcbfamgdkmfcgaaRows
import Derived.Test.YtcbfamgdkmfcgaaOp
import Derived.Test.YtcbfamgdkmfcgaaMr
namespace Go.Proofs.Ytcbfamgdkmfcgaa
open Go.ChangeShapes Go.WideShapes Go.ChangeAt Go.RowKit

theorem primesP (i : Nat) (hi : i < 15) : 1 < primesL.getD i 0 ∧ primesL.getD i 0 ≤ 2147483647 := by
  have : ∀ j, j < 15 → 1 < primesL.getD j 0 ∧ primesL.getD j 0 ≤ 2147483647 := by decide
  exact this i hi

/-- a struct of limbs and a sign -/
theorem number_shape {x : V} (h : (Shp.st [.slc (.int .u32), .bool]).Val x) : ∃ (l : List Nat) (b : Bool), x = .ag [.im (lv l) l.length, .sc (.bool b)] ∧ limbs l ∧ l.length ≤ maxLen := by
  obtain ⟨ys, rfl, a, r, rfl, ⟨yss, h1, rfl, h2⟩, c, d, rfl, ⟨b, rfl⟩, rfl⟩ := h
  obtain ⟨ns, h3, h4, h5⟩ := reps_nats u32_wf h2
  refine ⟨ns, b, ?_, fun n hn => by have := h5 n hn; omega, by omega⟩
  rw [h3, ← h4]; rfl

theorem spec_all (xs : List V) (h : Shp.Vals [.int .u8, .st [.slc (.int .u32), .bool], .st [.slc (.int .u32), .bool]] xs) : Spec Try.prog 5 xs (.sc (.bool true)) := by
  obtain ⟨x0, ys0, rfl, ⟨n, rfl, hn⟩, x1, ys1, rfl, h1, x2, ys2, rfl, h2, rfl⟩ := h
  obtain ⟨k, rfl, hk⟩ := wf_nat u8_wf hn
  obtain ⟨l1, b1, rfl, hl1, hm1⟩ := number_shape h1
  obtain ⟨l2, b2, rfl, hl2, hm2⟩ := number_shape h2
  obtain ⟨q1, q2⟩ := primesP (k % 15) (by omega)
  exact reduces_s k _ l1 l2 _ _ b1 b2 rfl q1 q2 hk hl1 hl2 rfl rfl (by unfold maxLen at hm1; omega) (by unfold maxLen at hm2; omega)

theorem own : ownKnob Try.prog.godebug = none := by kernel_rfl
theorem laidOut : laidOutB Try.prog = true := by kernel_rfl

set_option maxRecDepth 100000 in
theorem law_lifted (os : Os) (started : os.Started) (H : Type) (enc : TypeId × Value → H) :
    ReturnsInHanded {} Try.checked os 5 .any (Rows.modularReducesSpec.pre6 enc Try.prog Try.f5 Rows.modularReducesRow.domain false) (Rows.modularReducesSpec.post enc Try.prog Try.f5 false true false false) := by
  refine returnsInHanded_of_change (C := Try.checked) own started (by kernel_rfl) Try.func5
    (ChangeSpec.witness6 (enc := enc) (C := Try.checked) false ⟨#[], #[.int .u8 0, .agg #[.slice none 0 0, .bool false], .agg #[.slice none 0 0, .bool false]], []⟩ 8 (by kernel_rfl) (by kernel_rfl) (by kernel_rfl) (by kernel_rfl)) ?_
  intro W base args ds gs before hval0 hW hcnd _
  have hW' := hW
  obtain ⟨p, q, hA0, hV, rfl, hfz, hnd⟩ := hW
  obtain ⟨hl, hc⟩ := law_calls (enc := enc) [.int .u8, .st [.slc (.int .u32), .bool], .st [.slc (.int .u32), .bool]] (by kernel_rfl) hval0 hA0 spec_all
  refine hc.mono fun e W' ⟨he, hb⟩ => ?_
  subst he
  rw [show Try.f5.params.size = 3 by kernel_rfl] at hl
  obtain ⟨d0, d1, d2, rfl⟩ : ∃ d0 d1 d2, ds = [d0, d1, d2] := by
    match ds, hl with
    | [a0, a1, a2], _ => exact ⟨a0, a1, a2, rfl⟩
  exact ⟨_, rfl, law_post laidOut (by kernel_rfl) (by kernel_rfl) Try.underlying4 rfl rfl hW' hb⟩

theorem law_holds : Rows.ModularReducesSaid :=
  OpenClaim.holds_of_wide 5 Try.f5 rfl rfl rfl rfl rfl rfl rfl ⟨rfl, rfl, rfl, rfl, rfl⟩ rfl rfl rfl rfl rfl (by kernel_rfl) Try.func5 (by kernel_rfl)
    (of_decide_eq_true (by kernel_rfl)) (by unfold Func.isWrapper; first | (rw [if_pos (by decide +kernel)]; kernel_rfl) | (rw [if_neg (by decide +kernel)]; exact ⟨rfl, rfl⟩))
    (fun os started H enc _ => law_lifted os started H enc)
#print axioms law_holds
end Go.Proofs.Ytcbfamgdkmfcgaa
