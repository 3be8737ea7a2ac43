/-
  No cell of these rows narrows 'for every input' (looked for: loops, veiled, ifaces, maps, wideKeys, modest, calm, conditions, laid).
  DERIVED. THE GIVEN ROWS OF THIS SEAT. 5 by the template 'for every input the law returns true; each argument reads behind the call as it read before'; 0 by the template 'total and deterministic' (their statements: YtcbfamgdkmfcgaaTotals.lean).
  GIVEN WITH THE SEED: the statements are not yours to turn. If you find one false, say at which input.
  Laid BY PROGRAM, IN A SANDBOX (cutbox-rows.mjs): the forced cells as the released guide's own fill.sh prints them over the translation 925678f5ee58fcda… (all of the seat's roots in one cut). By AI agents, Wed Nov 11 2026. No macro, syntax, notation, axiom, sorry.
-/
import Derived.Test.YtcbfamgdkmfcgaaChecked
import GoSem.Claim
import GoSem.ClaimJoined
import GoSem.ClaimMapViews
import Derived.JoinedTies
import Derived.KernelRfl
namespace Go.Proofs.Ytcbfamgdkmfcgaa
/- THE CELL 'sum', in the pinned program and in every row, IS THE sha256 OF THE DUMP (.gsa) THAT YtcbfamgdkmfcgaaProg.lean LOADS. Nothing in Lean hashes anything: it is a label: what it is worth is what the hold of that sum in a sandbox is worth. -/
noncomputable def Try.pinned : Pinned := { name := "ytcbfamgdkmfcgaa", sum := "925678f5ee58fcdaa8692296d8bfa9f68151ece1a6a1ed8b1d6b4182f4bf33d6", checked := Try.checked }
namespace Rows
def none {H : Type} : Left H := { results := [], args := [] }

/-- 'torsionlaw03.ModularPrimeMatchesReference': WHATEVER THE INPUT: true; the input reads as it did. -/
def modularPrimeMatchesReferenceSpec : ChangeSpec := { name := "modularPrimeMatchesReference", fn := fun _ => fun
  | [d1, d2] => { results := [.lit (.bool true)], args := [d1, d2] }
  | _ => none }
def modularPrimeMatchesReferenceRow : OpenClaim := { program := "ytcbfamgdkmfcgaa", sum := "925678f5ee58fcdaa8692296d8bfa9f68151ece1a6a1ed8b1d6b4182f4bf33d6", func := "torsion/torsionlaw03.ModularPrimeMatchesReference", spec := "modularPrimeMatchesReference", unfollowed := true, recurses := true, apart := false }
def ModularPrimeMatchesReferenceSaid : Prop := modularPrimeMatchesReferenceRow.holds Try.pinned (OpenSpec.ofChange modularPrimeMatchesReferenceSpec)

/-- ITS FALSE NEIGHBOUR: 'it returns false'. Refute it at one input. -/
def modularPrimeMatchesReferenceWrong : ChangeSpec := { name := "modularPrimeMatchesReference", fn := fun _ => fun
  | [d1, d2] => { results := [.lit (.bool false)], args := [d1, d2] }
  | _ => none }
def ModularPrimeMatchesReferenceWrongFalsely : Prop := modularPrimeMatchesReferenceRow.holds Try.pinned (OpenSpec.ofChange modularPrimeMatchesReferenceWrong)

/-- 'torsionlaw03.ModularPrimes': WHATEVER THE INPUT: true; the input reads as it did. -/
def modularPrimesSpec : ChangeSpec := { name := "modularPrimes", fn := fun _ => fun
  | [d1, d2, d3] => { results := [.lit (.bool true)], args := [d1, d2, d3] }
  | _ => none }
def modularPrimesRow : OpenClaim := { program := "ytcbfamgdkmfcgaa", sum := "925678f5ee58fcdaa8692296d8bfa9f68151ece1a6a1ed8b1d6b4182f4bf33d6", func := "torsion/torsionlaw03.ModularPrimes", spec := "modularPrimes", unfollowed := true, recurses := true, apart := false }
def ModularPrimesSaid : Prop := modularPrimesRow.holds Try.pinned (OpenSpec.ofChange modularPrimesSpec)

/-- ITS FALSE NEIGHBOUR: 'it returns false'. Refute it at one input. -/
def modularPrimesWrong : ChangeSpec := { name := "modularPrimes", fn := fun _ => fun
  | [d1, d2, d3] => { results := [.lit (.bool false)], args := [d1, d2, d3] }
  | _ => none }
def ModularPrimesWrongFalsely : Prop := modularPrimesRow.holds Try.pinned (OpenSpec.ofChange modularPrimesWrong)

/-- 'torsionlaw03.ModularReduces': WHATEVER THE INPUT: true; the input reads as it did. -/
def modularReducesSpec : ChangeSpec := { name := "modularReduces", fn := fun _ => fun
  | [d1, d2, d3] => { results := [.lit (.bool true)], args := [d1, d2, d3] }
  | _ => none }
def modularReducesRow : OpenClaim := { program := "ytcbfamgdkmfcgaa", sum := "925678f5ee58fcdaa8692296d8bfa9f68151ece1a6a1ed8b1d6b4182f4bf33d6", func := "torsion/torsionlaw03.ModularReduces", spec := "modularReduces", unfollowed := true, recurses := true, apart := false }
def ModularReducesSaid : Prop := modularReducesRow.holds Try.pinned (OpenSpec.ofChange modularReducesSpec)

/-- ITS FALSE NEIGHBOUR: 'it returns false'. Refute it at one input. -/
def modularReducesWrong : ChangeSpec := { name := "modularReduces", fn := fun _ => fun
  | [d1, d2, d3] => { results := [.lit (.bool false)], args := [d1, d2, d3] }
  | _ => none }
def ModularReducesWrongFalsely : Prop := modularReducesRow.holds Try.pinned (OpenSpec.ofChange modularReducesWrong)

/-- 'torsionlaw03.ModularMatchesReference': WHATEVER THE INPUT: true; the input reads as it did. -/
def modularMatchesReferenceSpec : ChangeSpec := { name := "modularMatchesReference", fn := fun _ => fun
  | [d1, d2] => { results := [.lit (.bool true)], args := [d1, d2] }
  | _ => none }
def modularMatchesReferenceRow : OpenClaim := { program := "ytcbfamgdkmfcgaa", sum := "925678f5ee58fcdaa8692296d8bfa9f68151ece1a6a1ed8b1d6b4182f4bf33d6", func := "torsion/torsionlaw03.ModularMatchesReference", spec := "modularMatchesReference", unfollowed := true, recurses := true, apart := false }
def ModularMatchesReferenceSaid : Prop := modularMatchesReferenceRow.holds Try.pinned (OpenSpec.ofChange modularMatchesReferenceSpec)

/-- ITS FALSE NEIGHBOUR: 'it returns false'. Refute it at one input. -/
def modularMatchesReferenceWrong : ChangeSpec := { name := "modularMatchesReference", fn := fun _ => fun
  | [d1, d2] => { results := [.lit (.bool false)], args := [d1, d2] }
  | _ => none }
def ModularMatchesReferenceWrongFalsely : Prop := modularMatchesReferenceRow.holds Try.pinned (OpenSpec.ofChange modularMatchesReferenceWrong)

/-- 'torsionlaw03.ModularField': WHATEVER THE INPUT: true; the input reads as it did. -/
def modularFieldSpec : ChangeSpec := { name := "modularField", fn := fun _ => fun
  | [d1, d2, d3] => { results := [.lit (.bool true)], args := [d1, d2, d3] }
  | _ => none }
def modularFieldRow : OpenClaim := { program := "ytcbfamgdkmfcgaa", sum := "925678f5ee58fcdaa8692296d8bfa9f68151ece1a6a1ed8b1d6b4182f4bf33d6", func := "torsion/torsionlaw03.ModularField", spec := "modularField", unfollowed := true, recurses := true, apart := false }
def ModularFieldSaid : Prop := modularFieldRow.holds Try.pinned (OpenSpec.ofChange modularFieldSpec)

/-- ITS FALSE NEIGHBOUR: 'it returns false'. Refute it at one input. -/
def modularFieldWrong : ChangeSpec := { name := "modularField", fn := fun _ => fun
  | [d1, d2, d3] => { results := [.lit (.bool false)], args := [d1, d2, d3] }
  | _ => none }
def ModularFieldWrongFalsely : Prop := modularFieldRow.holds Try.pinned (OpenSpec.ofChange modularFieldWrong)

/- THE SECOND FORM. 'bulk': how many values and letters a reading holds, each counted each time it is reached (what is shared counts as often as it is met; a slice's spare places count too). A statement '..UptoSaid' is the law's where the arguments, and the package variables that the reading takes, are together of bulk at most 1048576: NARROWER than '..Said'. Prove '..Said' where nothing that the law and all that it calls make is longer than what came in: it says more and counts as full. Else prove '..UptoSaid'. A law counts once. -/
mutual
def uptoBulk {H : Type} : DataW H → Nat
  | .lit (.string bytes) => bytes.length + 1
  | .lit _ => 1
  | .nil => 1
  | .ptr d => uptoBulk d + 1
  | .slice elems spare => uptoBulkAll elems + uptoBulkAll spare + 1
  | .agg parts => uptoBulkAll parts + 1
  | .iface _ d => uptoBulk d + 1
  | .map entries => uptoBulkEntries entries + 1
  | .held _ => 1
def uptoBulkAll {H : Type} : List (DataW H) → Nat
  | [] => 0
  | d :: r => uptoBulk d + uptoBulkAll r
def uptoBulkEntries {H : Type} : List (Lit × DataW H) → Nat
  | [] => 0
  | x :: r => uptoBulkEntry x + uptoBulkEntries r
def uptoBulkEntry {H : Type} : Lit × DataW H → Nat
  | (.string bytes, d) => bytes.length + uptoBulk d + 1
  | (_, d) => uptoBulk d + 1
 end
def uptoSmall : (H : Type) → List (DataW H) → Bool := fun _ ds => decide (uptoBulkAll ds ≤ 1048576)
def OpenSpec.upto (s : _root_.Go.ChangeSpec) : _root_.Go.OpenSpec := { _root_.Go.OpenSpec.ofChange s with cond := some uptoSmall }

/-- 'torsionlaw03.ModularPrimeMatchesReference', WHERE WHAT IT READS IS OF BULK AT MOST 1048576: true; the input reads as it did. -/
def modularPrimeMatchesReferenceUptoRow : OpenClaim := { program := "ytcbfamgdkmfcgaa", sum := "925678f5ee58fcdaa8692296d8bfa9f68151ece1a6a1ed8b1d6b4182f4bf33d6", func := "torsion/torsionlaw03.ModularPrimeMatchesReference", spec := "modularPrimeMatchesReference", unfollowed := true, recurses := true, apart := false, narrowed := true }
def ModularPrimeMatchesReferenceUptoSaid : Prop := modularPrimeMatchesReferenceUptoRow.holds Try.pinned (OpenSpec.upto modularPrimeMatchesReferenceSpec)

/-- 'torsionlaw03.ModularPrimes', WHERE WHAT IT READS IS OF BULK AT MOST 1048576: true; the input reads as it did. -/
def modularPrimesUptoRow : OpenClaim := { program := "ytcbfamgdkmfcgaa", sum := "925678f5ee58fcdaa8692296d8bfa9f68151ece1a6a1ed8b1d6b4182f4bf33d6", func := "torsion/torsionlaw03.ModularPrimes", spec := "modularPrimes", unfollowed := true, recurses := true, apart := false, narrowed := true }
def ModularPrimesUptoSaid : Prop := modularPrimesUptoRow.holds Try.pinned (OpenSpec.upto modularPrimesSpec)

/-- 'torsionlaw03.ModularReduces', WHERE WHAT IT READS IS OF BULK AT MOST 1048576: true; the input reads as it did. -/
def modularReducesUptoRow : OpenClaim := { program := "ytcbfamgdkmfcgaa", sum := "925678f5ee58fcdaa8692296d8bfa9f68151ece1a6a1ed8b1d6b4182f4bf33d6", func := "torsion/torsionlaw03.ModularReduces", spec := "modularReduces", unfollowed := true, recurses := true, apart := false, narrowed := true }
def ModularReducesUptoSaid : Prop := modularReducesUptoRow.holds Try.pinned (OpenSpec.upto modularReducesSpec)

/-- 'torsionlaw03.ModularMatchesReference', WHERE WHAT IT READS IS OF BULK AT MOST 1048576: true; the input reads as it did. -/
def modularMatchesReferenceUptoRow : OpenClaim := { program := "ytcbfamgdkmfcgaa", sum := "925678f5ee58fcdaa8692296d8bfa9f68151ece1a6a1ed8b1d6b4182f4bf33d6", func := "torsion/torsionlaw03.ModularMatchesReference", spec := "modularMatchesReference", unfollowed := true, recurses := true, apart := false, narrowed := true }
def ModularMatchesReferenceUptoSaid : Prop := modularMatchesReferenceUptoRow.holds Try.pinned (OpenSpec.upto modularMatchesReferenceSpec)

/-- 'torsionlaw03.ModularField', WHERE WHAT IT READS IS OF BULK AT MOST 1048576: true; the input reads as it did. -/
def modularFieldUptoRow : OpenClaim := { program := "ytcbfamgdkmfcgaa", sum := "925678f5ee58fcdaa8692296d8bfa9f68151ece1a6a1ed8b1d6b4182f4bf33d6", func := "torsion/torsionlaw03.ModularField", spec := "modularField", unfollowed := true, recurses := true, apart := false, narrowed := true }
def ModularFieldUptoSaid : Prop := modularFieldUptoRow.holds Try.pinned (OpenSpec.upto modularFieldSpec)

end Rows
end Go.Proofs.Ytcbfamgdkmfcgaa
