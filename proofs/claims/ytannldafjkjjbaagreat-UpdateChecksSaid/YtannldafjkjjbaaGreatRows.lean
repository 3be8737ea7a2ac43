/-
  No cell of these rows narrows 'for every input' (looked for: loops, veiled, ifaces, maps, wideKeys, modest, calm, conditions, laid).
  DERIVED. THE GIVEN ROWS OF THIS SEAT. 9 by the template 'for every input the law returns true; each argument reads behind the call as it read before'; 0 by the template 'total and deterministic' (their statements: YtannldafjkjjbaaGreatTotals.lean).
  GIVEN WITH THE SEED: the statements are not yours to turn. If you find one false, say at which input.
  Laid BY PROGRAM, IN A SANDBOX (cutbox-rows.mjs): the forced cells as the released guide's own fill.sh prints them over the translation 85943bf79096b907… (all of the seat's roots in one cut). By AI agents, Wed Nov 11 2026. No macro, syntax, notation, axiom, sorry.
-/
import Derived.Test.YtannldafjkjjbaaGreatChecked
import GoSem.Claim
import GoSem.ClaimJoined
import GoSem.ClaimMapViews
import Derived.JoinedTies
import Derived.KernelRfl
namespace Go.Proofs.YtannldafjkjjbaaGreat
/- THE CELL 'sum', in the pinned program and in every row, IS THE sha256 OF THE DUMP (.gsa) THAT YtannldafjkjjbaaGreatProg.lean LOADS. Nothing in Lean hashes anything: it is a label: what it is worth is what the hold of that sum in a sandbox is worth. -/
noncomputable def Tryz.pinned : Pinned := { name := "ytannldafjkjjbaagreat", sum := "85943bf79096b907c58037acfb34f8048290c29964f4470bcd12ba8f015dd79a", checked := Tryz.checked }
namespace Rows
def none {H : Type} : Left H := { results := [], args := [] }

/-- 'torsionlaw19.UpdateStarts': WHATEVER THE INPUT: true; the input reads as it did. -/
def updateStartsSpec : ChangeSpec := { name := "updateStarts", fn := fun _ => fun
  | [d] => { results := [.lit (.bool true)], args := [d] }
  | _ => none }
def updateStartsRow : OpenClaim := { program := "ytannldafjkjjbaagreat", sum := "85943bf79096b907c58037acfb34f8048290c29964f4470bcd12ba8f015dd79a", func := "torsion/torsionlaw19.UpdateStarts", spec := "updateStarts", unfollowed := true, recurses := true, apart := false }
def UpdateStartsSaid : Prop := updateStartsRow.holds Tryz.pinned (OpenSpec.ofChange updateStartsSpec)

/-- ITS FALSE NEIGHBOUR: 'it returns false'. Refute it at one input. -/
def updateStartsWrong : ChangeSpec := { name := "updateStarts", fn := fun _ => fun
  | [d] => { results := [.lit (.bool false)], args := [d] }
  | _ => none }
def UpdateStartsWrongFalsely : Prop := updateStartsRow.holds Tryz.pinned (OpenSpec.ofChange updateStartsWrong)

/-- 'torsionlaw19.UpdateInserts': WHATEVER THE INPUT: true; the input reads as it did. -/
def updateInsertsSpec : ChangeSpec := { name := "updateInserts", fn := fun _ => fun
  | [d1, d2, d3] => { results := [.lit (.bool true)], args := [d1, d2, d3] }
  | _ => none }
def updateInsertsRow : OpenClaim := { program := "ytannldafjkjjbaagreat", sum := "85943bf79096b907c58037acfb34f8048290c29964f4470bcd12ba8f015dd79a", func := "torsion/torsionlaw19.UpdateInserts", spec := "updateInserts", unfollowed := true, recurses := true, apart := false }
def UpdateInsertsSaid : Prop := updateInsertsRow.holds Tryz.pinned (OpenSpec.ofChange updateInsertsSpec)

/-- ITS FALSE NEIGHBOUR: 'it returns false'. Refute it at one input. -/
def updateInsertsWrong : ChangeSpec := { name := "updateInserts", fn := fun _ => fun
  | [d1, d2, d3] => { results := [.lit (.bool false)], args := [d1, d2, d3] }
  | _ => none }
def UpdateInsertsWrongFalsely : Prop := updateInsertsRow.holds Tryz.pinned (OpenSpec.ofChange updateInsertsWrong)

/-- 'torsionlaw19.UpdateDeletes': WHATEVER THE INPUT: true; the input reads as it did. -/
def updateDeletesSpec : ChangeSpec := { name := "updateDeletes", fn := fun _ => fun
  | [d1, d2] => { results := [.lit (.bool true)], args := [d1, d2] }
  | _ => none }
def updateDeletesRow : OpenClaim := { program := "ytannldafjkjjbaagreat", sum := "85943bf79096b907c58037acfb34f8048290c29964f4470bcd12ba8f015dd79a", func := "torsion/torsionlaw19.UpdateDeletes", spec := "updateDeletes", unfollowed := true, recurses := true, apart := false }
def UpdateDeletesSaid : Prop := updateDeletesRow.holds Tryz.pinned (OpenSpec.ofChange updateDeletesSpec)

/-- ITS FALSE NEIGHBOUR: 'it returns false'. Refute it at one input. -/
def updateDeletesWrong : ChangeSpec := { name := "updateDeletes", fn := fun _ => fun
  | [d1, d2] => { results := [.lit (.bool false)], args := [d1, d2] }
  | _ => none }
def UpdateDeletesWrongFalsely : Prop := updateDeletesRow.holds Tryz.pinned (OpenSpec.ofChange updateDeletesWrong)

/-- 'torsionlaw19.UpdateRankOnes': WHATEVER THE INPUT: true; the input reads as it did. -/
def updateRankOnesSpec : ChangeSpec := { name := "updateRankOnes", fn := fun _ => fun
  | [d1, d2, d3] => { results := [.lit (.bool true)], args := [d1, d2, d3] }
  | _ => none }
def updateRankOnesRow : OpenClaim := { program := "ytannldafjkjjbaagreat", sum := "85943bf79096b907c58037acfb34f8048290c29964f4470bcd12ba8f015dd79a", func := "torsion/torsionlaw19.UpdateRankOnes", spec := "updateRankOnes", unfollowed := true, recurses := true, apart := false }
def UpdateRankOnesSaid : Prop := updateRankOnesRow.holds Tryz.pinned (OpenSpec.ofChange updateRankOnesSpec)

/-- ITS FALSE NEIGHBOUR: 'it returns false'. Refute it at one input. -/
def updateRankOnesWrong : ChangeSpec := { name := "updateRankOnes", fn := fun _ => fun
  | [d1, d2, d3] => { results := [.lit (.bool false)], args := [d1, d2, d3] }
  | _ => none }
def UpdateRankOnesWrongFalsely : Prop := updateRankOnesRow.holds Tryz.pinned (OpenSpec.ofChange updateRankOnesWrong)

/-- 'torsionlaw19.UpdateColumns': WHATEVER THE INPUT: true; the input reads as it did. -/
def updateColumnsSpec : ChangeSpec := { name := "updateColumns", fn := fun _ => fun
  | [d1, d2] => { results := [.lit (.bool true)], args := [d1, d2] }
  | _ => none }
def updateColumnsRow : OpenClaim := { program := "ytannldafjkjjbaagreat", sum := "85943bf79096b907c58037acfb34f8048290c29964f4470bcd12ba8f015dd79a", func := "torsion/torsionlaw19.UpdateColumns", spec := "updateColumns", unfollowed := true, recurses := true, apart := false }
def UpdateColumnsSaid : Prop := updateColumnsRow.holds Tryz.pinned (OpenSpec.ofChange updateColumnsSpec)

/-- ITS FALSE NEIGHBOUR: 'it returns false'. Refute it at one input. -/
def updateColumnsWrong : ChangeSpec := { name := "updateColumns", fn := fun _ => fun
  | [d1, d2] => { results := [.lit (.bool false)], args := [d1, d2] }
  | _ => none }
def UpdateColumnsWrongFalsely : Prop := updateColumnsRow.holds Tryz.pinned (OpenSpec.ofChange updateColumnsWrong)

/-- 'torsionlaw19.UpdateScripts': WHATEVER THE INPUT: true; the input reads as it did. -/
def updateScriptsSpec : ChangeSpec := { name := "updateScripts", fn := fun _ => fun
  | [d1, d2] => { results := [.lit (.bool true)], args := [d1, d2] }
  | _ => none }
def updateScriptsRow : OpenClaim := { program := "ytannldafjkjjbaagreat", sum := "85943bf79096b907c58037acfb34f8048290c29964f4470bcd12ba8f015dd79a", func := "torsion/torsionlaw19.UpdateScripts", spec := "updateScripts", unfollowed := true, recurses := true, apart := false }
def UpdateScriptsSaid : Prop := updateScriptsRow.holds Tryz.pinned (OpenSpec.ofChange updateScriptsSpec)

/-- ITS FALSE NEIGHBOUR: 'it returns false'. Refute it at one input. -/
def updateScriptsWrong : ChangeSpec := { name := "updateScripts", fn := fun _ => fun
  | [d1, d2] => { results := [.lit (.bool false)], args := [d1, d2] }
  | _ => none }
def UpdateScriptsWrongFalsely : Prop := updateScriptsRow.holds Tryz.pinned (OpenSpec.ofChange updateScriptsWrong)

/-- 'torsionlaw19.UpdateReverses': WHATEVER THE INPUT: true; the input reads as it did. -/
def updateReversesSpec : ChangeSpec := { name := "updateReverses", fn := fun _ => fun
  | [d1, d2, d3] => { results := [.lit (.bool true)], args := [d1, d2, d3] }
  | _ => none }
def updateReversesRow : OpenClaim := { program := "ytannldafjkjjbaagreat", sum := "85943bf79096b907c58037acfb34f8048290c29964f4470bcd12ba8f015dd79a", func := "torsion/torsionlaw19.UpdateReverses", spec := "updateReverses", unfollowed := true, recurses := true, apart := false }
def UpdateReversesSaid : Prop := updateReversesRow.holds Tryz.pinned (OpenSpec.ofChange updateReversesSpec)

/-- ITS FALSE NEIGHBOUR: 'it returns false'. Refute it at one input. -/
def updateReversesWrong : ChangeSpec := { name := "updateReverses", fn := fun _ => fun
  | [d1, d2, d3] => { results := [.lit (.bool false)], args := [d1, d2, d3] }
  | _ => none }
def UpdateReversesWrongFalsely : Prop := updateReversesRow.holds Tryz.pinned (OpenSpec.ofChange updateReversesWrong)

/-- 'torsionlaw19.UpdateReplays': WHATEVER THE INPUT: true; the input reads as it did. -/
def updateReplaysSpec : ChangeSpec := { name := "updateReplays", fn := fun _ => fun
  | [d1, d2] => { results := [.lit (.bool true)], args := [d1, d2] }
  | _ => none }
def updateReplaysRow : OpenClaim := { program := "ytannldafjkjjbaagreat", sum := "85943bf79096b907c58037acfb34f8048290c29964f4470bcd12ba8f015dd79a", func := "torsion/torsionlaw19.UpdateReplays", spec := "updateReplays", unfollowed := true, recurses := true, apart := false }
def UpdateReplaysSaid : Prop := updateReplaysRow.holds Tryz.pinned (OpenSpec.ofChange updateReplaysSpec)

/-- ITS FALSE NEIGHBOUR: 'it returns false'. Refute it at one input. -/
def updateReplaysWrong : ChangeSpec := { name := "updateReplays", fn := fun _ => fun
  | [d1, d2] => { results := [.lit (.bool false)], args := [d1, d2] }
  | _ => none }
def UpdateReplaysWrongFalsely : Prop := updateReplaysRow.holds Tryz.pinned (OpenSpec.ofChange updateReplaysWrong)

/-- 'torsionlaw19.UpdateChecks': WHATEVER THE INPUT: true; the input reads as it did. -/
def updateChecksSpec : ChangeSpec := { name := "updateChecks", fn := fun _ => fun
  | [d1, d2, d3] => { results := [.lit (.bool true)], args := [d1, d2, d3] }
  | _ => none }
def updateChecksRow : OpenClaim := { program := "ytannldafjkjjbaagreat", sum := "85943bf79096b907c58037acfb34f8048290c29964f4470bcd12ba8f015dd79a", func := "torsion/torsionlaw19.UpdateChecks", spec := "updateChecks", unfollowed := true, recurses := true, apart := false }
def UpdateChecksSaid : Prop := updateChecksRow.holds Tryz.pinned (OpenSpec.ofChange updateChecksSpec)

/-- ITS FALSE NEIGHBOUR: 'it returns false'. Refute it at one input. -/
def updateChecksWrong : ChangeSpec := { name := "updateChecks", fn := fun _ => fun
  | [d1, d2, d3] => { results := [.lit (.bool false)], args := [d1, d2, d3] }
  | _ => none }
def UpdateChecksWrongFalsely : Prop := updateChecksRow.holds Tryz.pinned (OpenSpec.ofChange updateChecksWrong)

/- THE SECOND FORM. 'bulk': how many values and letters a reading holds, each counted each time it is reached (what is shared counts as often as it is met; a slice's spare places count too). A statement '..UptoSaid' is the law's where the arguments, and the package variables that the reading takes, are together of bulk at most 1048576: NARROWER than '..Said'. Prove '..Said' where nothing that the law and all that it calls make is longer than what came in: it says more and counts as full. Else prove '..UptoSaid'. A law counts once. -/
mutual
def uptoBulk {H : Type} : DataW H → Nat
  | .lit (.string bytes) => bytes.length + 1
  | .lit _ => 1
  | .nil => 1
  | .ptr d => uptoBulk d + 1
  | .slice elems spare => uptoBulkAll elems + uptoBulkAll spare + 1
  | .agg parts => uptoBulkAll parts + 1
  | .iface _ d => uptoBulk d + 1
  | .map entries => uptoBulkEntries entries + 1
  | .held _ => 1
def uptoBulkAll {H : Type} : List (DataW H) → Nat
  | [] => 0
  | d :: r => uptoBulk d + uptoBulkAll r
def uptoBulkEntries {H : Type} : List (Lit × DataW H) → Nat
  | [] => 0
  | x :: r => uptoBulkEntry x + uptoBulkEntries r
def uptoBulkEntry {H : Type} : Lit × DataW H → Nat
  | (.string bytes, d) => bytes.length + uptoBulk d + 1
  | (_, d) => uptoBulk d + 1
 end
def uptoSmall : (H : Type) → List (DataW H) → Bool := fun _ ds => decide (uptoBulkAll ds ≤ 1048576)
def OpenSpec.upto (s : _root_.Go.ChangeSpec) : _root_.Go.OpenSpec := { _root_.Go.OpenSpec.ofChange s with cond := some uptoSmall }

/-- 'torsionlaw19.UpdateStarts', WHERE WHAT IT READS IS OF BULK AT MOST 1048576: true; the input reads as it did. -/
def updateStartsUptoRow : OpenClaim := { program := "ytannldafjkjjbaagreat", sum := "85943bf79096b907c58037acfb34f8048290c29964f4470bcd12ba8f015dd79a", func := "torsion/torsionlaw19.UpdateStarts", spec := "updateStarts", unfollowed := true, recurses := true, apart := false, narrowed := true }
def UpdateStartsUptoSaid : Prop := updateStartsUptoRow.holds Tryz.pinned (OpenSpec.upto updateStartsSpec)

/-- 'torsionlaw19.UpdateInserts', WHERE WHAT IT READS IS OF BULK AT MOST 1048576: true; the input reads as it did. -/
def updateInsertsUptoRow : OpenClaim := { program := "ytannldafjkjjbaagreat", sum := "85943bf79096b907c58037acfb34f8048290c29964f4470bcd12ba8f015dd79a", func := "torsion/torsionlaw19.UpdateInserts", spec := "updateInserts", unfollowed := true, recurses := true, apart := false, narrowed := true }
def UpdateInsertsUptoSaid : Prop := updateInsertsUptoRow.holds Tryz.pinned (OpenSpec.upto updateInsertsSpec)

/-- 'torsionlaw19.UpdateDeletes', WHERE WHAT IT READS IS OF BULK AT MOST 1048576: true; the input reads as it did. -/
def updateDeletesUptoRow : OpenClaim := { program := "ytannldafjkjjbaagreat", sum := "85943bf79096b907c58037acfb34f8048290c29964f4470bcd12ba8f015dd79a", func := "torsion/torsionlaw19.UpdateDeletes", spec := "updateDeletes", unfollowed := true, recurses := true, apart := false, narrowed := true }
def UpdateDeletesUptoSaid : Prop := updateDeletesUptoRow.holds Tryz.pinned (OpenSpec.upto updateDeletesSpec)

/-- 'torsionlaw19.UpdateRankOnes', WHERE WHAT IT READS IS OF BULK AT MOST 1048576: true; the input reads as it did. -/
def updateRankOnesUptoRow : OpenClaim := { program := "ytannldafjkjjbaagreat", sum := "85943bf79096b907c58037acfb34f8048290c29964f4470bcd12ba8f015dd79a", func := "torsion/torsionlaw19.UpdateRankOnes", spec := "updateRankOnes", unfollowed := true, recurses := true, apart := false, narrowed := true }
def UpdateRankOnesUptoSaid : Prop := updateRankOnesUptoRow.holds Tryz.pinned (OpenSpec.upto updateRankOnesSpec)

/-- 'torsionlaw19.UpdateColumns', WHERE WHAT IT READS IS OF BULK AT MOST 1048576: true; the input reads as it did. -/
def updateColumnsUptoRow : OpenClaim := { program := "ytannldafjkjjbaagreat", sum := "85943bf79096b907c58037acfb34f8048290c29964f4470bcd12ba8f015dd79a", func := "torsion/torsionlaw19.UpdateColumns", spec := "updateColumns", unfollowed := true, recurses := true, apart := false, narrowed := true }
def UpdateColumnsUptoSaid : Prop := updateColumnsUptoRow.holds Tryz.pinned (OpenSpec.upto updateColumnsSpec)

/-- 'torsionlaw19.UpdateScripts', WHERE WHAT IT READS IS OF BULK AT MOST 1048576: true; the input reads as it did. -/
def updateScriptsUptoRow : OpenClaim := { program := "ytannldafjkjjbaagreat", sum := "85943bf79096b907c58037acfb34f8048290c29964f4470bcd12ba8f015dd79a", func := "torsion/torsionlaw19.UpdateScripts", spec := "updateScripts", unfollowed := true, recurses := true, apart := false, narrowed := true }
def UpdateScriptsUptoSaid : Prop := updateScriptsUptoRow.holds Tryz.pinned (OpenSpec.upto updateScriptsSpec)

/-- 'torsionlaw19.UpdateReverses', WHERE WHAT IT READS IS OF BULK AT MOST 1048576: true; the input reads as it did. -/
def updateReversesUptoRow : OpenClaim := { program := "ytannldafjkjjbaagreat", sum := "85943bf79096b907c58037acfb34f8048290c29964f4470bcd12ba8f015dd79a", func := "torsion/torsionlaw19.UpdateReverses", spec := "updateReverses", unfollowed := true, recurses := true, apart := false, narrowed := true }
def UpdateReversesUptoSaid : Prop := updateReversesUptoRow.holds Tryz.pinned (OpenSpec.upto updateReversesSpec)

/-- 'torsionlaw19.UpdateReplays', WHERE WHAT IT READS IS OF BULK AT MOST 1048576: true; the input reads as it did. -/
def updateReplaysUptoRow : OpenClaim := { program := "ytannldafjkjjbaagreat", sum := "85943bf79096b907c58037acfb34f8048290c29964f4470bcd12ba8f015dd79a", func := "torsion/torsionlaw19.UpdateReplays", spec := "updateReplays", unfollowed := true, recurses := true, apart := false, narrowed := true }
def UpdateReplaysUptoSaid : Prop := updateReplaysUptoRow.holds Tryz.pinned (OpenSpec.upto updateReplaysSpec)

/-- 'torsionlaw19.UpdateChecks', WHERE WHAT IT READS IS OF BULK AT MOST 1048576: true; the input reads as it did. -/
def updateChecksUptoRow : OpenClaim := { program := "ytannldafjkjjbaagreat", sum := "85943bf79096b907c58037acfb34f8048290c29964f4470bcd12ba8f015dd79a", func := "torsion/torsionlaw19.UpdateChecks", spec := "updateChecks", unfollowed := true, recurses := true, apart := false, narrowed := true }
def UpdateChecksUptoSaid : Prop := updateChecksUptoRow.holds Tryz.pinned (OpenSpec.upto updateChecksSpec)

end Rows
end Go.Proofs.YtannldafjkjjbaaGreat
