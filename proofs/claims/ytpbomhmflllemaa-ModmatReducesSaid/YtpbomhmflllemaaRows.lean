/-
  No cell of these rows narrows 'for every input' (looked for: loops, veiled, ifaces, maps, wideKeys, modest, calm, conditions, laid).
  DERIVED. THE GIVEN ROWS OF THIS SEAT. 8 by the template 'for every input the law returns true; each argument reads behind the call as it read before'; 0 by the template 'total and deterministic' (their statements: YtpbomhmflllemaaTotals.lean).
  GIVEN WITH THE SEED: the statements are not yours to turn. If you find one false, say at which input.
  Laid BY PROGRAM, IN A SANDBOX (cutbox-rows.mjs): the forced cells as the released guide's own fill.sh prints them over the translation 80d0e2e6b008528c… (all of the seat's roots in one cut). By AI agents, Wed Nov 11 2026. No macro, syntax, notation, axiom, sorry.
-/
import Derived.Test.YtpbomhmflllemaaChecked
import GoSem.Claim
import GoSem.ClaimJoined
import GoSem.ClaimMapViews
import Derived.JoinedTies
import Derived.KernelRfl
namespace Go.Proofs.Ytpbomhmflllemaa
/- THE CELL 'sum', in the pinned program and in every row, IS THE sha256 OF THE DUMP (.gsa) THAT YtpbomhmflllemaaProg.lean LOADS. Nothing in Lean hashes anything: it is a label: what it is worth is what the hold of that sum in a sandbox is worth. -/
noncomputable def Try.pinned : Pinned := { name := "ytpbomhmflllemaa", sum := "80d0e2e6b008528c69443d43a9364a7eab39df1fdb9ffe9b75353963860f741b", checked := Try.checked }
namespace Rows
def none {H : Type} : Left H := { results := [], args := [] }

/-- 'torsionlaw07.ModmatMatchesReference': WHATEVER THE INPUT: true; the input reads as it did. -/
def modmatMatchesReferenceSpec : ChangeSpec := { name := "modmatMatchesReference", fn := fun _ => fun
  | [d] => { results := [.lit (.bool true)], args := [d] }
  | _ => none }
def modmatMatchesReferenceRow : OpenClaim := { program := "ytpbomhmflllemaa", sum := "80d0e2e6b008528c69443d43a9364a7eab39df1fdb9ffe9b75353963860f741b", func := "torsion/torsionlaw07.ModmatMatchesReference", spec := "modmatMatchesReference", unfollowed := true, recurses := true, apart := false }
def ModmatMatchesReferenceSaid : Prop := modmatMatchesReferenceRow.holds Try.pinned (OpenSpec.ofChange modmatMatchesReferenceSpec)

/-- ITS FALSE NEIGHBOUR: 'it returns false'. Refute it at one input. -/
def modmatMatchesReferenceWrong : ChangeSpec := { name := "modmatMatchesReference", fn := fun _ => fun
  | [d] => { results := [.lit (.bool false)], args := [d] }
  | _ => none }
def ModmatMatchesReferenceWrongFalsely : Prop := modmatMatchesReferenceRow.holds Try.pinned (OpenSpec.ofChange modmatMatchesReferenceWrong)

/-- 'torsionlaw07.ModmatEchelon': WHATEVER THE INPUT: true; the input reads as it did. -/
def modmatEchelonSpec : ChangeSpec := { name := "modmatEchelon", fn := fun _ => fun
  | [d] => { results := [.lit (.bool true)], args := [d] }
  | _ => none }
def modmatEchelonRow : OpenClaim := { program := "ytpbomhmflllemaa", sum := "80d0e2e6b008528c69443d43a9364a7eab39df1fdb9ffe9b75353963860f741b", func := "torsion/torsionlaw07.ModmatEchelon", spec := "modmatEchelon", unfollowed := true, recurses := true, apart := false }
def ModmatEchelonSaid : Prop := modmatEchelonRow.holds Try.pinned (OpenSpec.ofChange modmatEchelonSpec)

/-- ITS FALSE NEIGHBOUR: 'it returns false'. Refute it at one input. -/
def modmatEchelonWrong : ChangeSpec := { name := "modmatEchelon", fn := fun _ => fun
  | [d] => { results := [.lit (.bool false)], args := [d] }
  | _ => none }
def ModmatEchelonWrongFalsely : Prop := modmatEchelonRow.holds Try.pinned (OpenSpec.ofChange modmatEchelonWrong)

/-- 'torsionlaw07.ModmatChanges': WHATEVER THE INPUT: true; the input reads as it did. -/
def modmatChangesSpec : ChangeSpec := { name := "modmatChanges", fn := fun _ => fun
  | [d1, d2] => { results := [.lit (.bool true)], args := [d1, d2] }
  | _ => none }
def modmatChangesRow : OpenClaim := { program := "ytpbomhmflllemaa", sum := "80d0e2e6b008528c69443d43a9364a7eab39df1fdb9ffe9b75353963860f741b", func := "torsion/torsionlaw07.ModmatChanges", spec := "modmatChanges", unfollowed := true, recurses := true, apart := false }
def ModmatChangesSaid : Prop := modmatChangesRow.holds Try.pinned (OpenSpec.ofChange modmatChangesSpec)

/-- ITS FALSE NEIGHBOUR: 'it returns false'. Refute it at one input. -/
def modmatChangesWrong : ChangeSpec := { name := "modmatChanges", fn := fun _ => fun
  | [d1, d2] => { results := [.lit (.bool false)], args := [d1, d2] }
  | _ => none }
def ModmatChangesWrongFalsely : Prop := modmatChangesRow.holds Try.pinned (OpenSpec.ofChange modmatChangesWrong)

/-- 'torsionlaw07.ModmatRanks': WHATEVER THE INPUT: true; the input reads as it did. -/
def modmatRanksSpec : ChangeSpec := { name := "modmatRanks", fn := fun _ => fun
  | [d] => { results := [.lit (.bool true)], args := [d] }
  | _ => none }
def modmatRanksRow : OpenClaim := { program := "ytpbomhmflllemaa", sum := "80d0e2e6b008528c69443d43a9364a7eab39df1fdb9ffe9b75353963860f741b", func := "torsion/torsionlaw07.ModmatRanks", spec := "modmatRanks", unfollowed := true, recurses := true, apart := false }
def ModmatRanksSaid : Prop := modmatRanksRow.holds Try.pinned (OpenSpec.ofChange modmatRanksSpec)

/-- ITS FALSE NEIGHBOUR: 'it returns false'. Refute it at one input. -/
def modmatRanksWrong : ChangeSpec := { name := "modmatRanks", fn := fun _ => fun
  | [d] => { results := [.lit (.bool false)], args := [d] }
  | _ => none }
def ModmatRanksWrongFalsely : Prop := modmatRanksRow.holds Try.pinned (OpenSpec.ofChange modmatRanksWrong)

/-- 'torsionlaw07.ModmatLeft': WHATEVER THE INPUT: true; the input reads as it did. -/
def modmatLeftSpec : ChangeSpec := { name := "modmatLeft", fn := fun _ => fun
  | [d1, d2] => { results := [.lit (.bool true)], args := [d1, d2] }
  | _ => none }
def modmatLeftRow : OpenClaim := { program := "ytpbomhmflllemaa", sum := "80d0e2e6b008528c69443d43a9364a7eab39df1fdb9ffe9b75353963860f741b", func := "torsion/torsionlaw07.ModmatLeft", spec := "modmatLeft", unfollowed := true, recurses := true, apart := false }
def ModmatLeftSaid : Prop := modmatLeftRow.holds Try.pinned (OpenSpec.ofChange modmatLeftSpec)

/-- ITS FALSE NEIGHBOUR: 'it returns false'. Refute it at one input. -/
def modmatLeftWrong : ChangeSpec := { name := "modmatLeft", fn := fun _ => fun
  | [d1, d2] => { results := [.lit (.bool false)], args := [d1, d2] }
  | _ => none }
def ModmatLeftWrongFalsely : Prop := modmatLeftRow.holds Try.pinned (OpenSpec.ofChange modmatLeftWrong)

/-- 'torsionlaw07.ModmatSolves': WHATEVER THE INPUT: true; the input reads as it did. -/
def modmatSolvesSpec : ChangeSpec := { name := "modmatSolves", fn := fun _ => fun
  | [d1, d2, d3] => { results := [.lit (.bool true)], args := [d1, d2, d3] }
  | _ => none }
def modmatSolvesRow : OpenClaim := { program := "ytpbomhmflllemaa", sum := "80d0e2e6b008528c69443d43a9364a7eab39df1fdb9ffe9b75353963860f741b", func := "torsion/torsionlaw07.ModmatSolves", spec := "modmatSolves", unfollowed := true, recurses := true, apart := false }
def ModmatSolvesSaid : Prop := modmatSolvesRow.holds Try.pinned (OpenSpec.ofChange modmatSolvesSpec)

/-- ITS FALSE NEIGHBOUR: 'it returns false'. Refute it at one input. -/
def modmatSolvesWrong : ChangeSpec := { name := "modmatSolves", fn := fun _ => fun
  | [d1, d2, d3] => { results := [.lit (.bool false)], args := [d1, d2, d3] }
  | _ => none }
def ModmatSolvesWrongFalsely : Prop := modmatSolvesRow.holds Try.pinned (OpenSpec.ofChange modmatSolvesWrong)

/-- 'torsionlaw07.ModmatDeterminants': WHATEVER THE INPUT: true; the input reads as it did. -/
def modmatDeterminantsSpec : ChangeSpec := { name := "modmatDeterminants", fn := fun _ => fun
  | [d1, d2, d3] => { results := [.lit (.bool true)], args := [d1, d2, d3] }
  | _ => none }
def modmatDeterminantsRow : OpenClaim := { program := "ytpbomhmflllemaa", sum := "80d0e2e6b008528c69443d43a9364a7eab39df1fdb9ffe9b75353963860f741b", func := "torsion/torsionlaw07.ModmatDeterminants", spec := "modmatDeterminants", unfollowed := true, recurses := true, apart := false }
def ModmatDeterminantsSaid : Prop := modmatDeterminantsRow.holds Try.pinned (OpenSpec.ofChange modmatDeterminantsSpec)

/-- ITS FALSE NEIGHBOUR: 'it returns false'. Refute it at one input. -/
def modmatDeterminantsWrong : ChangeSpec := { name := "modmatDeterminants", fn := fun _ => fun
  | [d1, d2, d3] => { results := [.lit (.bool false)], args := [d1, d2, d3] }
  | _ => none }
def ModmatDeterminantsWrongFalsely : Prop := modmatDeterminantsRow.holds Try.pinned (OpenSpec.ofChange modmatDeterminantsWrong)

/-- 'torsionlaw07.ModmatReduces': WHATEVER THE INPUT: true; the input reads as it did. -/
def modmatReducesSpec : ChangeSpec := { name := "modmatReduces", fn := fun _ => fun
  | [d1, d2, d3] => { results := [.lit (.bool true)], args := [d1, d2, d3] }
  | _ => none }
def modmatReducesRow : OpenClaim := { program := "ytpbomhmflllemaa", sum := "80d0e2e6b008528c69443d43a9364a7eab39df1fdb9ffe9b75353963860f741b", func := "torsion/torsionlaw07.ModmatReduces", spec := "modmatReduces", unfollowed := true, recurses := true, apart := false }
def ModmatReducesSaid : Prop := modmatReducesRow.holds Try.pinned (OpenSpec.ofChange modmatReducesSpec)

/-- ITS FALSE NEIGHBOUR: 'it returns false'. Refute it at one input. -/
def modmatReducesWrong : ChangeSpec := { name := "modmatReduces", fn := fun _ => fun
  | [d1, d2, d3] => { results := [.lit (.bool false)], args := [d1, d2, d3] }
  | _ => none }
def ModmatReducesWrongFalsely : Prop := modmatReducesRow.holds Try.pinned (OpenSpec.ofChange modmatReducesWrong)

/- THE SECOND FORM. 'bulk': how many values and letters a reading holds, each counted each time it is reached (what is shared counts as often as it is met; a slice's spare places count too). A statement '..UptoSaid' is the law's where the arguments, and the package variables that the reading takes, are together of bulk at most 1048576: NARROWER than '..Said'. Prove '..Said' where nothing that the law and all that it calls make is longer than what came in: it says more and counts as full. Else prove '..UptoSaid'. A law counts once. -/
mutual
def uptoBulk {H : Type} : DataW H → Nat
  | .lit (.string bytes) => bytes.length + 1
  | .lit _ => 1
  | .nil => 1
  | .ptr d => uptoBulk d + 1
  | .slice elems spare => uptoBulkAll elems + uptoBulkAll spare + 1
  | .agg parts => uptoBulkAll parts + 1
  | .iface _ d => uptoBulk d + 1
  | .map entries => uptoBulkEntries entries + 1
  | .held _ => 1
def uptoBulkAll {H : Type} : List (DataW H) → Nat
  | [] => 0
  | d :: r => uptoBulk d + uptoBulkAll r
def uptoBulkEntries {H : Type} : List (Lit × DataW H) → Nat
  | [] => 0
  | x :: r => uptoBulkEntry x + uptoBulkEntries r
def uptoBulkEntry {H : Type} : Lit × DataW H → Nat
  | (.string bytes, d) => bytes.length + uptoBulk d + 1
  | (_, d) => uptoBulk d + 1
 end
def uptoSmall : (H : Type) → List (DataW H) → Bool := fun _ ds => decide (uptoBulkAll ds ≤ 1048576)
def OpenSpec.upto (s : _root_.Go.ChangeSpec) : _root_.Go.OpenSpec := { _root_.Go.OpenSpec.ofChange s with cond := some uptoSmall }

/-- 'torsionlaw07.ModmatMatchesReference', WHERE WHAT IT READS IS OF BULK AT MOST 1048576: true; the input reads as it did. -/
def modmatMatchesReferenceUptoRow : OpenClaim := { program := "ytpbomhmflllemaa", sum := "80d0e2e6b008528c69443d43a9364a7eab39df1fdb9ffe9b75353963860f741b", func := "torsion/torsionlaw07.ModmatMatchesReference", spec := "modmatMatchesReference", unfollowed := true, recurses := true, apart := false, narrowed := true }
def ModmatMatchesReferenceUptoSaid : Prop := modmatMatchesReferenceUptoRow.holds Try.pinned (OpenSpec.upto modmatMatchesReferenceSpec)

/-- 'torsionlaw07.ModmatEchelon', WHERE WHAT IT READS IS OF BULK AT MOST 1048576: true; the input reads as it did. -/
def modmatEchelonUptoRow : OpenClaim := { program := "ytpbomhmflllemaa", sum := "80d0e2e6b008528c69443d43a9364a7eab39df1fdb9ffe9b75353963860f741b", func := "torsion/torsionlaw07.ModmatEchelon", spec := "modmatEchelon", unfollowed := true, recurses := true, apart := false, narrowed := true }
def ModmatEchelonUptoSaid : Prop := modmatEchelonUptoRow.holds Try.pinned (OpenSpec.upto modmatEchelonSpec)

/-- 'torsionlaw07.ModmatChanges', WHERE WHAT IT READS IS OF BULK AT MOST 1048576: true; the input reads as it did. -/
def modmatChangesUptoRow : OpenClaim := { program := "ytpbomhmflllemaa", sum := "80d0e2e6b008528c69443d43a9364a7eab39df1fdb9ffe9b75353963860f741b", func := "torsion/torsionlaw07.ModmatChanges", spec := "modmatChanges", unfollowed := true, recurses := true, apart := false, narrowed := true }
def ModmatChangesUptoSaid : Prop := modmatChangesUptoRow.holds Try.pinned (OpenSpec.upto modmatChangesSpec)

/-- 'torsionlaw07.ModmatRanks', WHERE WHAT IT READS IS OF BULK AT MOST 1048576: true; the input reads as it did. -/
def modmatRanksUptoRow : OpenClaim := { program := "ytpbomhmflllemaa", sum := "80d0e2e6b008528c69443d43a9364a7eab39df1fdb9ffe9b75353963860f741b", func := "torsion/torsionlaw07.ModmatRanks", spec := "modmatRanks", unfollowed := true, recurses := true, apart := false, narrowed := true }
def ModmatRanksUptoSaid : Prop := modmatRanksUptoRow.holds Try.pinned (OpenSpec.upto modmatRanksSpec)

/-- 'torsionlaw07.ModmatLeft', WHERE WHAT IT READS IS OF BULK AT MOST 1048576: true; the input reads as it did. -/
def modmatLeftUptoRow : OpenClaim := { program := "ytpbomhmflllemaa", sum := "80d0e2e6b008528c69443d43a9364a7eab39df1fdb9ffe9b75353963860f741b", func := "torsion/torsionlaw07.ModmatLeft", spec := "modmatLeft", unfollowed := true, recurses := true, apart := false, narrowed := true }
def ModmatLeftUptoSaid : Prop := modmatLeftUptoRow.holds Try.pinned (OpenSpec.upto modmatLeftSpec)

/-- 'torsionlaw07.ModmatSolves', WHERE WHAT IT READS IS OF BULK AT MOST 1048576: true; the input reads as it did. -/
def modmatSolvesUptoRow : OpenClaim := { program := "ytpbomhmflllemaa", sum := "80d0e2e6b008528c69443d43a9364a7eab39df1fdb9ffe9b75353963860f741b", func := "torsion/torsionlaw07.ModmatSolves", spec := "modmatSolves", unfollowed := true, recurses := true, apart := false, narrowed := true }
def ModmatSolvesUptoSaid : Prop := modmatSolvesUptoRow.holds Try.pinned (OpenSpec.upto modmatSolvesSpec)

/-- 'torsionlaw07.ModmatDeterminants', WHERE WHAT IT READS IS OF BULK AT MOST 1048576: true; the input reads as it did. -/
def modmatDeterminantsUptoRow : OpenClaim := { program := "ytpbomhmflllemaa", sum := "80d0e2e6b008528c69443d43a9364a7eab39df1fdb9ffe9b75353963860f741b", func := "torsion/torsionlaw07.ModmatDeterminants", spec := "modmatDeterminants", unfollowed := true, recurses := true, apart := false, narrowed := true }
def ModmatDeterminantsUptoSaid : Prop := modmatDeterminantsUptoRow.holds Try.pinned (OpenSpec.upto modmatDeterminantsSpec)

/-- 'torsionlaw07.ModmatReduces', WHERE WHAT IT READS IS OF BULK AT MOST 1048576: true; the input reads as it did. -/
def modmatReducesUptoRow : OpenClaim := { program := "ytpbomhmflllemaa", sum := "80d0e2e6b008528c69443d43a9364a7eab39df1fdb9ffe9b75353963860f741b", func := "torsion/torsionlaw07.ModmatReduces", spec := "modmatReduces", unfollowed := true, recurses := true, apart := false, narrowed := true }
def ModmatReducesUptoSaid : Prop := modmatReducesUptoRow.holds Try.pinned (OpenSpec.upto modmatReducesSpec)

end Rows
end Go.Proofs.Ytpbomhmflllemaa
