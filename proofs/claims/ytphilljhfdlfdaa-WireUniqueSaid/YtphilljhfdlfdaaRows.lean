/-
  No cell of these rows narrows 'for every input' (looked for: loops, veiled, ifaces, maps, wideKeys, modest, calm, conditions, laid).
  DERIVED. THE GIVEN ROWS OF THIS SEAT. 4 by the template 'for every input the law returns true; each argument reads behind the call as it read before'; 0 by the template 'total and deterministic' (their statements: YtphilljhfdlfdaaTotals.lean).
  GIVEN WITH THE SEED: the statements are not yours to turn. If you find one false, say at which input.
  Laid BY PROGRAM, IN A SANDBOX (cutbox-rows.mjs): the forced cells as the released guide's own fill.sh prints them over the translation 06e996296e61ff29… (all of the seat's roots in one cut). By AI agents, Wed Nov 11 2026. No macro, syntax, notation, axiom, sorry.
-/
import Derived.Test.YtphilljhfdlfdaaChecked
import GoSem.Claim
import GoSem.ClaimJoined
import GoSem.ClaimMapViews
import Derived.JoinedTies
import Derived.KernelRfl
namespace Go.Proofs.Ytphilljhfdlfdaa
/- THE CELL 'sum', in the pinned program and in every row, IS THE sha256 OF THE DUMP (.gsa) THAT YtphilljhfdlfdaaProg.lean LOADS. Nothing in Lean hashes anything: it is a label: what it is worth is what the hold of that sum in a sandbox is worth. -/
noncomputable def Try.pinned : Pinned := { name := "ytphilljhfdlfdaa", sum := "06e996296e61ff299d0984bc308c119752365cf9f55c898c1ad6769083a5848c", checked := Try.checked }
namespace Rows
def none {H : Type} : Left H := { results := [], args := [] }

/-- 'torsionlaw33.WireInts': WHATEVER THE INPUT: true; the input reads as it did. -/
def wireIntsSpec : ChangeSpec := { name := "wireInts", fn := fun _ => fun
  | [d1, d2, d3] => { results := [.lit (.bool true)], args := [d1, d2, d3] }
  | _ => none }
def wireIntsRow : OpenClaim := { program := "ytphilljhfdlfdaa", sum := "06e996296e61ff299d0984bc308c119752365cf9f55c898c1ad6769083a5848c", func := "torsion/torsionlaw33.WireInts", spec := "wireInts", unfollowed := true, recurses := true, apart := false }
def WireIntsSaid : Prop := wireIntsRow.holds Try.pinned (OpenSpec.ofChange wireIntsSpec)

/-- ITS FALSE NEIGHBOUR: 'it returns false'. Refute it at one input. -/
def wireIntsWrong : ChangeSpec := { name := "wireInts", fn := fun _ => fun
  | [d1, d2, d3] => { results := [.lit (.bool false)], args := [d1, d2, d3] }
  | _ => none }
def WireIntsWrongFalsely : Prop := wireIntsRow.holds Try.pinned (OpenSpec.ofChange wireIntsWrong)

/-- 'torsionlaw33.WireHistories': WHATEVER THE INPUT: true; the input reads as it did. -/
def wireHistoriesSpec : ChangeSpec := { name := "wireHistories", fn := fun _ => fun
  | [d1, d2] => { results := [.lit (.bool true)], args := [d1, d2] }
  | _ => none }
def wireHistoriesRow : OpenClaim := { program := "ytphilljhfdlfdaa", sum := "06e996296e61ff299d0984bc308c119752365cf9f55c898c1ad6769083a5848c", func := "torsion/torsionlaw33.WireHistories", spec := "wireHistories", unfollowed := true, recurses := true, apart := false }
def WireHistoriesSaid : Prop := wireHistoriesRow.holds Try.pinned (OpenSpec.ofChange wireHistoriesSpec)

/-- ITS FALSE NEIGHBOUR: 'it returns false'. Refute it at one input. -/
def wireHistoriesWrong : ChangeSpec := { name := "wireHistories", fn := fun _ => fun
  | [d1, d2] => { results := [.lit (.bool false)], args := [d1, d2] }
  | _ => none }
def WireHistoriesWrongFalsely : Prop := wireHistoriesRow.holds Try.pinned (OpenSpec.ofChange wireHistoriesWrong)

/-- 'torsionlaw33.WireSalvages': WHATEVER THE INPUT: true; the input reads as it did. -/
def wireSalvagesSpec : ChangeSpec := { name := "wireSalvages", fn := fun _ => fun
  | [d] => { results := [.lit (.bool true)], args := [d] }
  | _ => none }
def wireSalvagesRow : OpenClaim := { program := "ytphilljhfdlfdaa", sum := "06e996296e61ff299d0984bc308c119752365cf9f55c898c1ad6769083a5848c", func := "torsion/torsionlaw33.WireSalvages", spec := "wireSalvages", unfollowed := true, recurses := true, apart := false }
def WireSalvagesSaid : Prop := wireSalvagesRow.holds Try.pinned (OpenSpec.ofChange wireSalvagesSpec)

/-- ITS FALSE NEIGHBOUR: 'it returns false'. Refute it at one input. -/
def wireSalvagesWrong : ChangeSpec := { name := "wireSalvages", fn := fun _ => fun
  | [d] => { results := [.lit (.bool false)], args := [d] }
  | _ => none }
def WireSalvagesWrongFalsely : Prop := wireSalvagesRow.holds Try.pinned (OpenSpec.ofChange wireSalvagesWrong)

/-- 'torsionlaw33.WireUnique': WHATEVER THE INPUT: true; the input reads as it did. -/
def wireUniqueSpec : ChangeSpec := { name := "wireUnique", fn := fun _ => fun
  | [d1, d2] => { results := [.lit (.bool true)], args := [d1, d2] }
  | _ => none }
def wireUniqueRow : OpenClaim := { program := "ytphilljhfdlfdaa", sum := "06e996296e61ff299d0984bc308c119752365cf9f55c898c1ad6769083a5848c", func := "torsion/torsionlaw33.WireUnique", spec := "wireUnique", unfollowed := true, recurses := true, apart := false }
def WireUniqueSaid : Prop := wireUniqueRow.holds Try.pinned (OpenSpec.ofChange wireUniqueSpec)

/-- ITS FALSE NEIGHBOUR: 'it returns false'. Refute it at one input. -/
def wireUniqueWrong : ChangeSpec := { name := "wireUnique", fn := fun _ => fun
  | [d1, d2] => { results := [.lit (.bool false)], args := [d1, d2] }
  | _ => none }
def WireUniqueWrongFalsely : Prop := wireUniqueRow.holds Try.pinned (OpenSpec.ofChange wireUniqueWrong)

/- THE SECOND FORM. 'bulk': how many values and letters a reading holds, each counted each time it is reached (what is shared counts as often as it is met; a slice's spare places count too). A statement '..UptoSaid' is the law's where the arguments, and the package variables that the reading takes, are together of bulk at most 1048576: NARROWER than '..Said'. Prove '..Said' where nothing that the law and all that it calls make is longer than what came in: it says more and counts as full. Else prove '..UptoSaid'. A law counts once. -/
mutual
def uptoBulk {H : Type} : DataW H → Nat
  | .lit (.string bytes) => bytes.length + 1
  | .lit _ => 1
  | .nil => 1
  | .ptr d => uptoBulk d + 1
  | .slice elems spare => uptoBulkAll elems + uptoBulkAll spare + 1
  | .agg parts => uptoBulkAll parts + 1
  | .iface _ d => uptoBulk d + 1
  | .map entries => uptoBulkEntries entries + 1
  | .held _ => 1
def uptoBulkAll {H : Type} : List (DataW H) → Nat
  | [] => 0
  | d :: r => uptoBulk d + uptoBulkAll r
def uptoBulkEntries {H : Type} : List (Lit × DataW H) → Nat
  | [] => 0
  | x :: r => uptoBulkEntry x + uptoBulkEntries r
def uptoBulkEntry {H : Type} : Lit × DataW H → Nat
  | (.string bytes, d) => bytes.length + uptoBulk d + 1
  | (_, d) => uptoBulk d + 1
 end
def uptoSmall : (H : Type) → List (DataW H) → Bool := fun _ ds => decide (uptoBulkAll ds ≤ 1048576)
def OpenSpec.upto (s : _root_.Go.ChangeSpec) : _root_.Go.OpenSpec := { _root_.Go.OpenSpec.ofChange s with cond := some uptoSmall }

/-- 'torsionlaw33.WireInts', WHERE WHAT IT READS IS OF BULK AT MOST 1048576: true; the input reads as it did. -/
def wireIntsUptoRow : OpenClaim := { program := "ytphilljhfdlfdaa", sum := "06e996296e61ff299d0984bc308c119752365cf9f55c898c1ad6769083a5848c", func := "torsion/torsionlaw33.WireInts", spec := "wireInts", unfollowed := true, recurses := true, apart := false, narrowed := true }
def WireIntsUptoSaid : Prop := wireIntsUptoRow.holds Try.pinned (OpenSpec.upto wireIntsSpec)

/-- 'torsionlaw33.WireHistories', WHERE WHAT IT READS IS OF BULK AT MOST 1048576: true; the input reads as it did. -/
def wireHistoriesUptoRow : OpenClaim := { program := "ytphilljhfdlfdaa", sum := "06e996296e61ff299d0984bc308c119752365cf9f55c898c1ad6769083a5848c", func := "torsion/torsionlaw33.WireHistories", spec := "wireHistories", unfollowed := true, recurses := true, apart := false, narrowed := true }
def WireHistoriesUptoSaid : Prop := wireHistoriesUptoRow.holds Try.pinned (OpenSpec.upto wireHistoriesSpec)

/-- 'torsionlaw33.WireSalvages', WHERE WHAT IT READS IS OF BULK AT MOST 1048576: true; the input reads as it did. -/
def wireSalvagesUptoRow : OpenClaim := { program := "ytphilljhfdlfdaa", sum := "06e996296e61ff299d0984bc308c119752365cf9f55c898c1ad6769083a5848c", func := "torsion/torsionlaw33.WireSalvages", spec := "wireSalvages", unfollowed := true, recurses := true, apart := false, narrowed := true }
def WireSalvagesUptoSaid : Prop := wireSalvagesUptoRow.holds Try.pinned (OpenSpec.upto wireSalvagesSpec)

/-- 'torsionlaw33.WireUnique', WHERE WHAT IT READS IS OF BULK AT MOST 1048576: true; the input reads as it did. -/
def wireUniqueUptoRow : OpenClaim := { program := "ytphilljhfdlfdaa", sum := "06e996296e61ff299d0984bc308c119752365cf9f55c898c1ad6769083a5848c", func := "torsion/torsionlaw33.WireUnique", spec := "wireUnique", unfollowed := true, recurses := true, apart := false, narrowed := true }
def WireUniqueUptoSaid : Prop := wireUniqueUptoRow.holds Try.pinned (OpenSpec.upto wireUniqueSpec)

end Rows
end Go.Proofs.Ytphilljhfdlfdaa
