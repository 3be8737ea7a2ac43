/-
  DERIVED. GIVEN WITH THE SEED: THE CARDS: each row of YtpbnhioelmgaiaaDoorRows.lean that lists a variable, with what it lists TIED to the program's text (the seventh form; the later family's looks); each row that meets fmt, with fmt's text TOLD by the authors' own Lean function (tested against real Go, not proved from fmt's source: count such statements apart). THE CARD IS WHAT COUNTS. Prove the row's statement (the work); the ties are given (YtpbnhioelmgaiaaDoorTie.lean); close each card by the builder's one call (the guide's Derived/Test/ToyasCard.lean, 'card_holds'). Laid BY PROGRAM, IN A SANDBOX (cutbox-door.mjs). By AI agents, Wed Nov 11 2026. No macro, syntax, notation, axiom, sorry.
-/
import Derived.Test.YtpbnhioelmgaiaaDoorRows
import GoSem.ClaimSeven
namespace Go.Proofs.YtpbnhioelmgaiaaDoor
namespace Rows

/-- THE TIED CARD OF 'torsionlaw24.CommitHashMatchesReference'. -/
def commitHashMatchesReferenceCard : Claim7 := { stood := { row := commitHashMatchesReferenceRow, standIns := [], harness := (true, "93dff022056fc65c570f71ab06fb53bd7b26ad0a6d1864afa671797a6bd1a5e5"), looks := false }, kinds := [], alts := [], laidByText := true, laidKinds := [.data, .data], laidTests := true, laidLooks := .later }
def CommitHashMatchesReferenceCardSaid : Prop := Claim7.holds Tryd.pinned (.plain (OpenSpec.ofChange commitHashMatchesReferenceSpec)) commitHashMatchesReferenceCard

/-- THE TIED CARD OF 'torsionlaw24.CommitMatchesReference'. -/
def commitMatchesReferenceCard : Claim7 := { stood := { row := commitMatchesReferenceRow, standIns := [], harness := (true, "93dff022056fc65c570f71ab06fb53bd7b26ad0a6d1864afa671797a6bd1a5e5"), looks := false }, kinds := [], alts := [], laidByText := true, laidKinds := [.data, .data], laidTests := true, laidLooks := .later }
def CommitMatchesReferenceCardSaid : Prop := Claim7.holds Tryd.pinned (.plain (OpenSpec.ofChange commitMatchesReferenceSpec)) commitMatchesReferenceCard

/-- THE TIED CARD OF 'torsionlaw24.CommitVerifyMatchesReference'. -/
def commitVerifyMatchesReferenceCard : Claim7 := { stood := { row := commitVerifyMatchesReferenceRow, standIns := [], harness := (true, "93dff022056fc65c570f71ab06fb53bd7b26ad0a6d1864afa671797a6bd1a5e5"), looks := false }, kinds := [], alts := [], laidByText := true, laidKinds := [.data, .data], laidTests := true, laidLooks := .later }
def CommitVerifyMatchesReferenceCardSaid : Prop := Claim7.holds Tryd.pinned (.plain (OpenSpec.ofChange commitVerifyMatchesReferenceSpec)) commitVerifyMatchesReferenceCard

/-- THE SECOND FORM's CARD OF 'torsionlaw24.CommitHashMatchesReference'. -/
def commitHashMatchesReferenceUptoCard : Claim7 := { stood := { row := commitHashMatchesReferenceUptoRow, standIns := [], harness := (true, "93dff022056fc65c570f71ab06fb53bd7b26ad0a6d1864afa671797a6bd1a5e5"), looks := false }, kinds := [], alts := [], laidByText := true, laidKinds := [.data, .data], laidTests := true, laidLooks := .later }
def CommitHashMatchesReferenceUptoCardSaid : Prop := Claim7.holds Tryd.pinned (.plain (OpenSpec.upto commitHashMatchesReferenceSpec)) commitHashMatchesReferenceUptoCard

/-- THE SECOND FORM's CARD OF 'torsionlaw24.CommitMatchesReference'. -/
def commitMatchesReferenceUptoCard : Claim7 := { stood := { row := commitMatchesReferenceUptoRow, standIns := [], harness := (true, "93dff022056fc65c570f71ab06fb53bd7b26ad0a6d1864afa671797a6bd1a5e5"), looks := false }, kinds := [], alts := [], laidByText := true, laidKinds := [.data, .data], laidTests := true, laidLooks := .later }
def CommitMatchesReferenceUptoCardSaid : Prop := Claim7.holds Tryd.pinned (.plain (OpenSpec.upto commitMatchesReferenceSpec)) commitMatchesReferenceUptoCard

/-- THE SECOND FORM's CARD OF 'torsionlaw24.CommitVerifyMatchesReference'. -/
def commitVerifyMatchesReferenceUptoCard : Claim7 := { stood := { row := commitVerifyMatchesReferenceUptoRow, standIns := [], harness := (true, "93dff022056fc65c570f71ab06fb53bd7b26ad0a6d1864afa671797a6bd1a5e5"), looks := false }, kinds := [], alts := [], laidByText := true, laidKinds := [.data, .data], laidTests := true, laidLooks := .later }
def CommitVerifyMatchesReferenceUptoCardSaid : Prop := Claim7.holds Tryd.pinned (.plain (OpenSpec.upto commitVerifyMatchesReferenceSpec)) commitVerifyMatchesReferenceUptoCard
end Rows
end Go.Proofs.YtpbnhioelmgaiaaDoor
