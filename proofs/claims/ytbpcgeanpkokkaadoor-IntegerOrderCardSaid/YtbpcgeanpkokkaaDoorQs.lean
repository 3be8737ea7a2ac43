/- The fixed examples of the law's package: a closed run. -/
import Derived.Test.YtbpcgeanpkokkaaDoorQa
namespace Go.Proofs.YtbpcgeanpkokkaaDoor
open Go.RowKit

/-- known contracts: slices.Clone -/
def K01 (f : Nat) (ys : List V) : Option V :=
  match ys with
  | [.im cs n] => if f = 55 ∧ cs.length = n ∧ n ≤ 1000 ∧ cs.all clo = true ∧ cs.all V.one = true then some (.im cs n) else none
  | _ => none
theorem K01_sound : KSound Tryd.prog K01 := by
  intro f ys x h
  unfold K01 at h
  split at h
  · split at h
    · rename_i hc
      obtain ⟨rfl, rfl, hn, h1, h2⟩ := hc
      simp only [Option.some.injEq] at h
      subst h
      exact clone_s _ h1 h2 (by omega)
    · cases h
  · cases h
/-- functions that work on their caller's blocks -/
def inl01 (f : Nat) : Bool := f == 75 || f == 90
set_option maxRecDepth 1000000 in
theorem sanity_s : Spec Tryd.prog 12 [] (.sc (.bool true)) := Spec.eval K01_sound 400 inl01 (by kernel_rfl)
end Go.Proofs.YtbpcgeanpkokkaaDoor
