/-
  No cell of these rows narrows 'for every input' (looked for: loops, veiled, ifaces, maps, wideKeys, modest, calm, conditions, laid).
  DERIVED. THE GIVEN ROWS OF THIS SEAT. 8 by the template 'for every input the law returns true; each argument reads behind the call as it read before'; 0 by the template 'total and deterministic' (their statements: YtdkkgndibagihaaTotals.lean).
  GIVEN WITH THE SEED: the statements are not yours to turn. If you find one false, say at which input.
  Laid BY PROGRAM, IN A SANDBOX (cutbox-rows.mjs): the forced cells as the released guide's own fill.sh prints them over the translation 83df27c95b4e5e26… (all of the seat's roots in one cut). By AI agents, Wed Nov 11 2026. No macro, syntax, notation, axiom, sorry.
-/
import Derived.Test.YtdkkgndibagihaaChecked
import GoSem.Claim
import GoSem.ClaimJoined
import GoSem.ClaimMapViews
import Derived.JoinedTies
import Derived.KernelRfl
namespace Go.Proofs.Ytdkkgndibagihaa
/- THE CELL 'sum', in the pinned program and in every row, IS THE sha256 OF THE DUMP (.gsa) THAT YtdkkgndibagihaaProg.lean LOADS. Nothing in Lean hashes anything: it is a label: what it is worth is what the hold of that sum in a sandbox is worth. -/
noncomputable def Try.pinned : Pinned := { name := "ytdkkgndibagihaa", sum := "83df27c95b4e5e2610e95607b7923831fdfdbda4e7b53020340fd0a46cbd0ea3", checked := Try.checked }
namespace Rows
def none {H : Type} : Left H := { results := [], args := [] }

/-- 'torsionlaw25.ComplexMatchesReference': WHATEVER THE INPUT: true; the input reads as it did. -/
def complexMatchesReferenceSpec : ChangeSpec := { name := "complexMatchesReference", fn := fun _ => fun
  | [d1, d2, d3] => { results := [.lit (.bool true)], args := [d1, d2, d3] }
  | _ => none }
def complexMatchesReferenceRow : OpenClaim := { program := "ytdkkgndibagihaa", sum := "83df27c95b4e5e2610e95607b7923831fdfdbda4e7b53020340fd0a46cbd0ea3", func := "torsion/torsionlaw25.ComplexMatchesReference", spec := "complexMatchesReference", inPlace := ["slices.overlaps[torsion/api.Cell]"], unfollowed := true, recurses := true, apart := false }
def ComplexMatchesReferenceSaid : Prop := complexMatchesReferenceRow.holds Try.pinned (OpenSpec.ofChange complexMatchesReferenceSpec)

/-- ITS FALSE NEIGHBOUR: 'it returns false'. Refute it at one input. -/
def complexMatchesReferenceWrong : ChangeSpec := { name := "complexMatchesReference", fn := fun _ => fun
  | [d1, d2, d3] => { results := [.lit (.bool false)], args := [d1, d2, d3] }
  | _ => none }
def ComplexMatchesReferenceWrongFalsely : Prop := complexMatchesReferenceRow.holds Try.pinned (OpenSpec.ofChange complexMatchesReferenceWrong)

/-- 'torsionlaw25.ComplexValid': WHATEVER THE INPUT: true; the input reads as it did. -/
def complexValidSpec : ChangeSpec := { name := "complexValid", fn := fun _ => fun
  | [d1, d2, d3] => { results := [.lit (.bool true)], args := [d1, d2, d3] }
  | _ => none }
def complexValidRow : OpenClaim := { program := "ytdkkgndibagihaa", sum := "83df27c95b4e5e2610e95607b7923831fdfdbda4e7b53020340fd0a46cbd0ea3", func := "torsion/torsionlaw25.ComplexValid", spec := "complexValid", inPlace := ["slices.overlaps[torsion/api.Cell]"], unfollowed := true, recurses := true, apart := false }
def ComplexValidSaid : Prop := complexValidRow.holds Try.pinned (OpenSpec.ofChange complexValidSpec)

/-- ITS FALSE NEIGHBOUR: 'it returns false'. Refute it at one input. -/
def complexValidWrong : ChangeSpec := { name := "complexValid", fn := fun _ => fun
  | [d1, d2, d3] => { results := [.lit (.bool false)], args := [d1, d2, d3] }
  | _ => none }
def ComplexValidWrongFalsely : Prop := complexValidRow.holds Try.pinned (OpenSpec.ofChange complexValidWrong)

/-- 'torsionlaw25.ComplexInserts': WHATEVER THE INPUT: true; the input reads as it did. -/
def complexInsertsSpec : ChangeSpec := { name := "complexInserts", fn := fun _ => fun
  | [d1, d2, d3] => { results := [.lit (.bool true)], args := [d1, d2, d3] }
  | _ => none }
def complexInsertsRow : OpenClaim := { program := "ytdkkgndibagihaa", sum := "83df27c95b4e5e2610e95607b7923831fdfdbda4e7b53020340fd0a46cbd0ea3", func := "torsion/torsionlaw25.ComplexInserts", spec := "complexInserts", inPlace := ["slices.overlaps[torsion/api.Cell]"], unfollowed := true, recurses := true, apart := false }
def ComplexInsertsSaid : Prop := complexInsertsRow.holds Try.pinned (OpenSpec.ofChange complexInsertsSpec)

/-- ITS FALSE NEIGHBOUR: 'it returns false'. Refute it at one input. -/
def complexInsertsWrong : ChangeSpec := { name := "complexInserts", fn := fun _ => fun
  | [d1, d2, d3] => { results := [.lit (.bool false)], args := [d1, d2, d3] }
  | _ => none }
def ComplexInsertsWrongFalsely : Prop := complexInsertsRow.holds Try.pinned (OpenSpec.ofChange complexInsertsWrong)

/-- 'torsionlaw25.ComplexRemoves': WHATEVER THE INPUT: true; the input reads as it did. -/
def complexRemovesSpec : ChangeSpec := { name := "complexRemoves", fn := fun _ => fun
  | [d1, d2] => { results := [.lit (.bool true)], args := [d1, d2] }
  | _ => none }
def complexRemovesRow : OpenClaim := { program := "ytdkkgndibagihaa", sum := "83df27c95b4e5e2610e95607b7923831fdfdbda4e7b53020340fd0a46cbd0ea3", func := "torsion/torsionlaw25.ComplexRemoves", spec := "complexRemoves", inPlace := ["slices.overlaps[torsion/api.Cell]"], unfollowed := true, recurses := true, apart := false }
def ComplexRemovesSaid : Prop := complexRemovesRow.holds Try.pinned (OpenSpec.ofChange complexRemovesSpec)

/-- ITS FALSE NEIGHBOUR: 'it returns false'. Refute it at one input. -/
def complexRemovesWrong : ChangeSpec := { name := "complexRemoves", fn := fun _ => fun
  | [d1, d2] => { results := [.lit (.bool false)], args := [d1, d2] }
  | _ => none }
def ComplexRemovesWrongFalsely : Prop := complexRemovesRow.holds Try.pinned (OpenSpec.ofChange complexRemovesWrong)

/-- 'torsionlaw25.ComplexSquares': WHATEVER THE INPUT: true; the input reads as it did. -/
def complexSquaresSpec : ChangeSpec := { name := "complexSquares", fn := fun _ => fun
  | [d] => { results := [.lit (.bool true)], args := [d] }
  | _ => none }
def complexSquaresRow : OpenClaim := { program := "ytdkkgndibagihaa", sum := "83df27c95b4e5e2610e95607b7923831fdfdbda4e7b53020340fd0a46cbd0ea3", func := "torsion/torsionlaw25.ComplexSquares", spec := "complexSquares", inPlace := ["slices.overlaps[torsion/api.Cell]"], unfollowed := true, recurses := true, apart := false }
def ComplexSquaresSaid : Prop := complexSquaresRow.holds Try.pinned (OpenSpec.ofChange complexSquaresSpec)

/-- ITS FALSE NEIGHBOUR: 'it returns false'. Refute it at one input. -/
def complexSquaresWrong : ChangeSpec := { name := "complexSquares", fn := fun _ => fun
  | [d] => { results := [.lit (.bool false)], args := [d] }
  | _ => none }
def ComplexSquaresWrongFalsely : Prop := complexSquaresRow.holds Try.pinned (OpenSpec.ofChange complexSquaresWrong)

/-- 'torsionlaw25.ComplexReverses': WHATEVER THE INPUT: true; the input reads as it did. -/
def complexReversesSpec : ChangeSpec := { name := "complexReverses", fn := fun _ => fun
  | [d1, d2, d3] => { results := [.lit (.bool true)], args := [d1, d2, d3] }
  | _ => none }
def complexReversesRow : OpenClaim := { program := "ytdkkgndibagihaa", sum := "83df27c95b4e5e2610e95607b7923831fdfdbda4e7b53020340fd0a46cbd0ea3", func := "torsion/torsionlaw25.ComplexReverses", spec := "complexReverses", inPlace := ["slices.overlaps[torsion/api.Cell]"], unfollowed := true, recurses := true, apart := false }
def ComplexReversesSaid : Prop := complexReversesRow.holds Try.pinned (OpenSpec.ofChange complexReversesSpec)

/-- ITS FALSE NEIGHBOUR: 'it returns false'. Refute it at one input. -/
def complexReversesWrong : ChangeSpec := { name := "complexReverses", fn := fun _ => fun
  | [d1, d2, d3] => { results := [.lit (.bool false)], args := [d1, d2, d3] }
  | _ => none }
def ComplexReversesWrongFalsely : Prop := complexReversesRow.holds Try.pinned (OpenSpec.ofChange complexReversesWrong)

/-- 'torsionlaw25.ComplexCounts': WHATEVER THE INPUT: true; the input reads as it did. -/
def complexCountsSpec : ChangeSpec := { name := "complexCounts", fn := fun _ => fun
  | [d1, d2] => { results := [.lit (.bool true)], args := [d1, d2] }
  | _ => none }
def complexCountsRow : OpenClaim := { program := "ytdkkgndibagihaa", sum := "83df27c95b4e5e2610e95607b7923831fdfdbda4e7b53020340fd0a46cbd0ea3", func := "torsion/torsionlaw25.ComplexCounts", spec := "complexCounts", inPlace := ["slices.overlaps[torsion/api.Cell]"], unfollowed := true, recurses := true, apart := false }
def ComplexCountsSaid : Prop := complexCountsRow.holds Try.pinned (OpenSpec.ofChange complexCountsSpec)

/-- ITS FALSE NEIGHBOUR: 'it returns false'. Refute it at one input. -/
def complexCountsWrong : ChangeSpec := { name := "complexCounts", fn := fun _ => fun
  | [d1, d2] => { results := [.lit (.bool false)], args := [d1, d2] }
  | _ => none }
def ComplexCountsWrongFalsely : Prop := complexCountsRow.holds Try.pinned (OpenSpec.ofChange complexCountsWrong)

/-- 'torsionlaw25.ComplexLimits': WHATEVER THE INPUT: true; the input reads as it did. -/
def complexLimitsSpec : ChangeSpec := { name := "complexLimits", fn := fun _ => fun
  | [d1, d2] => { results := [.lit (.bool true)], args := [d1, d2] }
  | _ => none }
def complexLimitsRow : OpenClaim := { program := "ytdkkgndibagihaa", sum := "83df27c95b4e5e2610e95607b7923831fdfdbda4e7b53020340fd0a46cbd0ea3", func := "torsion/torsionlaw25.ComplexLimits", spec := "complexLimits", inPlace := ["slices.overlaps[torsion/api.Cell]"], unfollowed := true, recurses := true, apart := false }
def ComplexLimitsSaid : Prop := complexLimitsRow.holds Try.pinned (OpenSpec.ofChange complexLimitsSpec)

/-- ITS FALSE NEIGHBOUR: 'it returns false'. Refute it at one input. -/
def complexLimitsWrong : ChangeSpec := { name := "complexLimits", fn := fun _ => fun
  | [d1, d2] => { results := [.lit (.bool false)], args := [d1, d2] }
  | _ => none }
def ComplexLimitsWrongFalsely : Prop := complexLimitsRow.holds Try.pinned (OpenSpec.ofChange complexLimitsWrong)

/- THE SECOND FORM. 'bulk': how many values and letters a reading holds, each counted each time it is reached (what is shared counts as often as it is met; a slice's spare places count too). A statement '..UptoSaid' is the law's where the arguments, and the package variables that the reading takes, are together of bulk at most 1048576: NARROWER than '..Said'. Prove '..Said' where nothing that the law and all that it calls make is longer than what came in: it says more and counts as full. Else prove '..UptoSaid'. A law counts once. -/
mutual
def uptoBulk {H : Type} : DataW H → Nat
  | .lit (.string bytes) => bytes.length + 1
  | .lit _ => 1
  | .nil => 1
  | .ptr d => uptoBulk d + 1
  | .slice elems spare => uptoBulkAll elems + uptoBulkAll spare + 1
  | .agg parts => uptoBulkAll parts + 1
  | .iface _ d => uptoBulk d + 1
  | .map entries => uptoBulkEntries entries + 1
  | .held _ => 1
def uptoBulkAll {H : Type} : List (DataW H) → Nat
  | [] => 0
  | d :: r => uptoBulk d + uptoBulkAll r
def uptoBulkEntries {H : Type} : List (Lit × DataW H) → Nat
  | [] => 0
  | x :: r => uptoBulkEntry x + uptoBulkEntries r
def uptoBulkEntry {H : Type} : Lit × DataW H → Nat
  | (.string bytes, d) => bytes.length + uptoBulk d + 1
  | (_, d) => uptoBulk d + 1
 end
def uptoSmall : (H : Type) → List (DataW H) → Bool := fun _ ds => decide (uptoBulkAll ds ≤ 1048576)
def OpenSpec.upto (s : _root_.Go.ChangeSpec) : _root_.Go.OpenSpec := { _root_.Go.OpenSpec.ofChange s with cond := some uptoSmall }

/-- 'torsionlaw25.ComplexMatchesReference', WHERE WHAT IT READS IS OF BULK AT MOST 1048576: true; the input reads as it did. -/
def complexMatchesReferenceUptoRow : OpenClaim := { program := "ytdkkgndibagihaa", sum := "83df27c95b4e5e2610e95607b7923831fdfdbda4e7b53020340fd0a46cbd0ea3", func := "torsion/torsionlaw25.ComplexMatchesReference", spec := "complexMatchesReference", inPlace := ["slices.overlaps[torsion/api.Cell]"], unfollowed := true, recurses := true, apart := false, narrowed := true }
def ComplexMatchesReferenceUptoSaid : Prop := complexMatchesReferenceUptoRow.holds Try.pinned (OpenSpec.upto complexMatchesReferenceSpec)

/-- 'torsionlaw25.ComplexValid', WHERE WHAT IT READS IS OF BULK AT MOST 1048576: true; the input reads as it did. -/
def complexValidUptoRow : OpenClaim := { program := "ytdkkgndibagihaa", sum := "83df27c95b4e5e2610e95607b7923831fdfdbda4e7b53020340fd0a46cbd0ea3", func := "torsion/torsionlaw25.ComplexValid", spec := "complexValid", inPlace := ["slices.overlaps[torsion/api.Cell]"], unfollowed := true, recurses := true, apart := false, narrowed := true }
def ComplexValidUptoSaid : Prop := complexValidUptoRow.holds Try.pinned (OpenSpec.upto complexValidSpec)

/-- 'torsionlaw25.ComplexInserts', WHERE WHAT IT READS IS OF BULK AT MOST 1048576: true; the input reads as it did. -/
def complexInsertsUptoRow : OpenClaim := { program := "ytdkkgndibagihaa", sum := "83df27c95b4e5e2610e95607b7923831fdfdbda4e7b53020340fd0a46cbd0ea3", func := "torsion/torsionlaw25.ComplexInserts", spec := "complexInserts", inPlace := ["slices.overlaps[torsion/api.Cell]"], unfollowed := true, recurses := true, apart := false, narrowed := true }
def ComplexInsertsUptoSaid : Prop := complexInsertsUptoRow.holds Try.pinned (OpenSpec.upto complexInsertsSpec)

/-- 'torsionlaw25.ComplexRemoves', WHERE WHAT IT READS IS OF BULK AT MOST 1048576: true; the input reads as it did. -/
def complexRemovesUptoRow : OpenClaim := { program := "ytdkkgndibagihaa", sum := "83df27c95b4e5e2610e95607b7923831fdfdbda4e7b53020340fd0a46cbd0ea3", func := "torsion/torsionlaw25.ComplexRemoves", spec := "complexRemoves", inPlace := ["slices.overlaps[torsion/api.Cell]"], unfollowed := true, recurses := true, apart := false, narrowed := true }
def ComplexRemovesUptoSaid : Prop := complexRemovesUptoRow.holds Try.pinned (OpenSpec.upto complexRemovesSpec)

/-- 'torsionlaw25.ComplexSquares', WHERE WHAT IT READS IS OF BULK AT MOST 1048576: true; the input reads as it did. -/
def complexSquaresUptoRow : OpenClaim := { program := "ytdkkgndibagihaa", sum := "83df27c95b4e5e2610e95607b7923831fdfdbda4e7b53020340fd0a46cbd0ea3", func := "torsion/torsionlaw25.ComplexSquares", spec := "complexSquares", inPlace := ["slices.overlaps[torsion/api.Cell]"], unfollowed := true, recurses := true, apart := false, narrowed := true }
def ComplexSquaresUptoSaid : Prop := complexSquaresUptoRow.holds Try.pinned (OpenSpec.upto complexSquaresSpec)

/-- 'torsionlaw25.ComplexReverses', WHERE WHAT IT READS IS OF BULK AT MOST 1048576: true; the input reads as it did. -/
def complexReversesUptoRow : OpenClaim := { program := "ytdkkgndibagihaa", sum := "83df27c95b4e5e2610e95607b7923831fdfdbda4e7b53020340fd0a46cbd0ea3", func := "torsion/torsionlaw25.ComplexReverses", spec := "complexReverses", inPlace := ["slices.overlaps[torsion/api.Cell]"], unfollowed := true, recurses := true, apart := false, narrowed := true }
def ComplexReversesUptoSaid : Prop := complexReversesUptoRow.holds Try.pinned (OpenSpec.upto complexReversesSpec)

/-- 'torsionlaw25.ComplexCounts', WHERE WHAT IT READS IS OF BULK AT MOST 1048576: true; the input reads as it did. -/
def complexCountsUptoRow : OpenClaim := { program := "ytdkkgndibagihaa", sum := "83df27c95b4e5e2610e95607b7923831fdfdbda4e7b53020340fd0a46cbd0ea3", func := "torsion/torsionlaw25.ComplexCounts", spec := "complexCounts", inPlace := ["slices.overlaps[torsion/api.Cell]"], unfollowed := true, recurses := true, apart := false, narrowed := true }
def ComplexCountsUptoSaid : Prop := complexCountsUptoRow.holds Try.pinned (OpenSpec.upto complexCountsSpec)

/-- 'torsionlaw25.ComplexLimits', WHERE WHAT IT READS IS OF BULK AT MOST 1048576: true; the input reads as it did. -/
def complexLimitsUptoRow : OpenClaim := { program := "ytdkkgndibagihaa", sum := "83df27c95b4e5e2610e95607b7923831fdfdbda4e7b53020340fd0a46cbd0ea3", func := "torsion/torsionlaw25.ComplexLimits", spec := "complexLimits", inPlace := ["slices.overlaps[torsion/api.Cell]"], unfollowed := true, recurses := true, apart := false, narrowed := true }
def ComplexLimitsUptoSaid : Prop := complexLimitsUptoRow.holds Try.pinned (OpenSpec.upto complexLimitsSpec)

end Rows
end Go.Proofs.Ytdkkgndibagihaa
