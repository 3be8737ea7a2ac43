/- Shapes of the laws' integers. -/
import Derived.Test.YtbpcgeanpkokkaaDoorOp
import Derived.Test.YtbpcgeanpkokkaaDoorJa
namespace Go.Proofs.YtbpcgeanpkokkaaDoor
open Go.ChangeShapes Go.WideShapes Go.ChangeAt Go.RowKit

theorem i64_wf (n : Int) (h : (Lit.int .i64 n).wf = true) : -9223372036854775808 ≤ n ∧ n ≤ 9223372036854775807 := by
  have h1 : IntKind.i64.min = -9223372036854775808 := rfl
  have h2 : IntKind.i64.max = 9223372036854775807 := rfl
  simp [Lit.wf] at h
  omega
/-- a struct of limbs and a sign -/
theorem number_shape {x : V} (h : (Shp.st [.slc (.int .u32), .bool]).Val x) : ∃ (l : List Nat) (b : Bool), x = .ag [.im (lv l) l.length, .sc (.bool b)] ∧ limbs l ∧ l.length ≤ maxLen := by
  obtain ⟨ys, rfl, a, r, rfl, ⟨yss, h1, rfl, h2⟩, c, d, rfl, ⟨b, rfl⟩, rfl⟩ := h
  obtain ⟨ns, h3, h4, h5⟩ := reps_nats u32_wf h2
  refine ⟨ns, b, ?_, fun n hn => by have := h5 n hn; omega, by omega⟩
  rw [h3, ← h4]; rfl
end Go.Proofs.YtbpcgeanpkokkaaDoor
