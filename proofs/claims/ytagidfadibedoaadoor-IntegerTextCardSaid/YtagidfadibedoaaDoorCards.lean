/-
  DERIVED. GIVEN WITH THE SEED: THE CARDS: each row of YtagidfadibedoaaDoorRows.lean that lists a variable, with what it lists TIED to the program's text (the seventh form; the later family's looks); each row that meets fmt, with fmt's text TOLD by the authors' own Lean function (tested against real Go, not proved from fmt's source: count such statements apart). THE CARD IS WHAT COUNTS. Prove the row's statement (the work); the ties are given (YtagidfadibedoaaDoorTie.lean); close each card by the builder's one call (the guide's Derived/Test/ToyasCard.lean, 'card_holds'). Laid BY PROGRAM, IN A SANDBOX (cutbox-door.mjs). By AI agents, Wed Nov 11 2026. No macro, syntax, notation, axiom, sorry.
-/
import Derived.Test.YtagidfadibedoaaDoorRows
import GoSem.ClaimSeven
namespace Go.Proofs.YtagidfadibedoaaDoor
namespace Rows

/-- THE TIED CARD OF 'torsionlaw01.IntegerText'. -/
def integerTextCard : Claim7 := { stood := { row := integerTextRow, standIns := [], harness := (true, "27fc89268af4303743c5bbfc237157a82c7efbb8bbef5a6f96d7c38de1444b46"), looks := false }, kinds := [], alts := [], laidByText := true, laidKinds := [.data, .data, .data], laidTests := true, laidLooks := .later }
def IntegerTextCardSaid : Prop := Claim7.holds Tryd.pinned (.plain (OpenSpec.ofChange integerTextSpec)) integerTextCard

/-- THE SECOND FORM's CARD OF 'torsionlaw01.IntegerText'. -/
def integerTextUptoCard : Claim7 := { stood := { row := integerTextUptoRow, standIns := [], harness := (true, "27fc89268af4303743c5bbfc237157a82c7efbb8bbef5a6f96d7c38de1444b46"), looks := false }, kinds := [], alts := [], laidByText := true, laidKinds := [.data, .data, .data], laidTests := true, laidLooks := .later }
def IntegerTextUptoCardSaid : Prop := Claim7.holds Tryd.pinned (.plain (OpenSpec.upto integerTextSpec)) integerTextUptoCard
end Rows
end Go.Proofs.YtagidfadibedoaaDoor
