/-
  DERIVED. GIVEN WITH THE SEED: THE CARDS: each row of YtbpcgeanpkokkaaDoorRows.lean that lists a variable, with what it lists TIED to the program's text (the seventh form; the later family's looks); each row that meets fmt, with fmt's text TOLD by the authors' own Lean function (tested against real Go, not proved from fmt's source: count such statements apart). THE CARD IS WHAT COUNTS. Prove the row's statement (the work); the ties are given (YtbpcgeanpkokkaaDoorTie.lean); close each card by the builder's one call (the guide's Derived/Test/ToyasCard.lean, 'card_holds'). Laid BY PROGRAM, IN A SANDBOX (cutbox-door.mjs). By AI agents, Wed Nov 11 2026. No macro, syntax, notation, axiom, sorry.
-/
import Derived.Test.YtbpcgeanpkokkaaDoorRows
import GoSem.ClaimSeven
namespace Go.Proofs.YtbpcgeanpkokkaaDoor
namespace Rows

/-- THE TIED CARD OF 'torsionlaw01.IntegerValid'. -/
def integerValidCard : Claim7 := { stood := { row := integerValidRow, standIns := [], harness := (true, "3d2f797c2f422f79ca880c8cf7cc3592d795d518ac08b434fd8dc3a60044d74a"), looks := false }, kinds := [], alts := [], laidByText := true, laidKinds := [.data, .data, .data], laidTests := true, laidLooks := .later }
def IntegerValidCardSaid : Prop := Claim7.holds Tryd.pinned (.plain (OpenSpec.ofChange integerValidSpec)) integerValidCard

/-- THE TIED CARD OF 'torsionlaw01.IntegerRing'. -/
def integerRingCard : Claim7 := { stood := { row := integerRingRow, standIns := [], harness := (true, "3d2f797c2f422f79ca880c8cf7cc3592d795d518ac08b434fd8dc3a60044d74a"), looks := false }, kinds := [], alts := [], laidByText := true, laidKinds := [.data, .data, .data], laidTests := true, laidLooks := .later }
def IntegerRingCardSaid : Prop := Claim7.holds Tryd.pinned (.plain (OpenSpec.ofChange integerRingSpec)) integerRingCard

/-- THE TIED CARD OF 'torsionlaw01.IntegerOrder'. -/
def integerOrderCard : Claim7 := { stood := { row := integerOrderRow, standIns := [], harness := (true, "3d2f797c2f422f79ca880c8cf7cc3592d795d518ac08b434fd8dc3a60044d74a"), looks := false }, kinds := [], alts := [], laidByText := true, laidKinds := [.data, .data, .data], laidTests := true, laidLooks := .later }
def IntegerOrderCardSaid : Prop := Claim7.holds Tryd.pinned (.plain (OpenSpec.ofChange integerOrderSpec)) integerOrderCard

/-- THE TIED CARD OF 'torsionlaw01.IntegerDivides'. -/
def integerDividesCard : Claim7 := { stood := { row := integerDividesRow, standIns := [], harness := (true, "3d2f797c2f422f79ca880c8cf7cc3592d795d518ac08b434fd8dc3a60044d74a"), looks := false }, kinds := [], alts := [], laidByText := true, laidKinds := [.data, .data, .data], laidTests := true, laidLooks := .later }
def IntegerDividesCardSaid : Prop := Claim7.holds Tryd.pinned (.plain (OpenSpec.ofChange integerDividesSpec)) integerDividesCard

/-- THE TIED CARD OF 'torsionlaw01.IntegerGcd'. -/
def integerGcdCard : Claim7 := { stood := { row := integerGcdRow, standIns := [], harness := (true, "3d2f797c2f422f79ca880c8cf7cc3592d795d518ac08b434fd8dc3a60044d74a"), looks := false }, kinds := [], alts := [], laidByText := true, laidKinds := [.data, .data, .data], laidTests := true, laidLooks := .later }
def IntegerGcdCardSaid : Prop := Claim7.holds Tryd.pinned (.plain (OpenSpec.ofChange integerGcdSpec)) integerGcdCard

/-- THE TIED CARD OF 'torsionlaw01.IntegerPowers'. -/
def integerPowersCard : Claim7 := { stood := { row := integerPowersRow, standIns := [], harness := (true, "3d2f797c2f422f79ca880c8cf7cc3592d795d518ac08b434fd8dc3a60044d74a"), looks := false }, kinds := [], alts := [], laidByText := true, laidKinds := [.data, .data, .data], laidTests := true, laidLooks := .later }
def IntegerPowersCardSaid : Prop := Claim7.holds Tryd.pinned (.plain (OpenSpec.ofChange integerPowersSpec)) integerPowersCard

/-- THE TIED CARD OF 'torsionlaw01.IntegerText'. -/
def integerTextCard : Claim7 := { stood := { row := integerTextRow, standIns := [], harness := (true, "3d2f797c2f422f79ca880c8cf7cc3592d795d518ac08b434fd8dc3a60044d74a"), looks := false }, kinds := [], alts := [], laidByText := true, laidKinds := [.data, .data, .data], laidTests := true, laidLooks := .later }
def IntegerTextCardSaid : Prop := Claim7.holds Tryd.pinned (.plain (OpenSpec.ofChange integerTextSpec)) integerTextCard

/-- THE TIED CARD OF 'torsionlaw01.IntegerExt'. -/
def integerExtCard : Claim7 := { stood := { row := integerExtRow, standIns := [], harness := (true, "3d2f797c2f422f79ca880c8cf7cc3592d795d518ac08b434fd8dc3a60044d74a"), looks := false }, kinds := [], alts := [], laidByText := true, laidKinds := [.data, .data, .data], laidTests := true, laidLooks := .later }
def IntegerExtCardSaid : Prop := Claim7.holds Tryd.pinned (.plain (OpenSpec.ofChange integerExtSpec)) integerExtCard

/-- THE TIED CARD OF 'torsionlaw01.IntegerRoots'. -/
def integerRootsCard : Claim7 := { stood := { row := integerRootsRow, standIns := [], harness := (true, "3d2f797c2f422f79ca880c8cf7cc3592d795d518ac08b434fd8dc3a60044d74a"), looks := false }, kinds := [], alts := [], laidByText := true, laidKinds := [.data, .data, .data], laidTests := true, laidLooks := .later }
def IntegerRootsCardSaid : Prop := Claim7.holds Tryd.pinned (.plain (OpenSpec.ofChange integerRootsSpec)) integerRootsCard

/-- THE SECOND FORM's CARD OF 'torsionlaw01.IntegerValid'. -/
def integerValidUptoCard : Claim7 := { stood := { row := integerValidUptoRow, standIns := [], harness := (true, "3d2f797c2f422f79ca880c8cf7cc3592d795d518ac08b434fd8dc3a60044d74a"), looks := false }, kinds := [], alts := [], laidByText := true, laidKinds := [.data, .data, .data], laidTests := true, laidLooks := .later }
def IntegerValidUptoCardSaid : Prop := Claim7.holds Tryd.pinned (.plain (OpenSpec.upto integerValidSpec)) integerValidUptoCard

/-- THE SECOND FORM's CARD OF 'torsionlaw01.IntegerRing'. -/
def integerRingUptoCard : Claim7 := { stood := { row := integerRingUptoRow, standIns := [], harness := (true, "3d2f797c2f422f79ca880c8cf7cc3592d795d518ac08b434fd8dc3a60044d74a"), looks := false }, kinds := [], alts := [], laidByText := true, laidKinds := [.data, .data, .data], laidTests := true, laidLooks := .later }
def IntegerRingUptoCardSaid : Prop := Claim7.holds Tryd.pinned (.plain (OpenSpec.upto integerRingSpec)) integerRingUptoCard

/-- THE SECOND FORM's CARD OF 'torsionlaw01.IntegerOrder'. -/
def integerOrderUptoCard : Claim7 := { stood := { row := integerOrderUptoRow, standIns := [], harness := (true, "3d2f797c2f422f79ca880c8cf7cc3592d795d518ac08b434fd8dc3a60044d74a"), looks := false }, kinds := [], alts := [], laidByText := true, laidKinds := [.data, .data, .data], laidTests := true, laidLooks := .later }
def IntegerOrderUptoCardSaid : Prop := Claim7.holds Tryd.pinned (.plain (OpenSpec.upto integerOrderSpec)) integerOrderUptoCard

/-- THE SECOND FORM's CARD OF 'torsionlaw01.IntegerDivides'. -/
def integerDividesUptoCard : Claim7 := { stood := { row := integerDividesUptoRow, standIns := [], harness := (true, "3d2f797c2f422f79ca880c8cf7cc3592d795d518ac08b434fd8dc3a60044d74a"), looks := false }, kinds := [], alts := [], laidByText := true, laidKinds := [.data, .data, .data], laidTests := true, laidLooks := .later }
def IntegerDividesUptoCardSaid : Prop := Claim7.holds Tryd.pinned (.plain (OpenSpec.upto integerDividesSpec)) integerDividesUptoCard

/-- THE SECOND FORM's CARD OF 'torsionlaw01.IntegerGcd'. -/
def integerGcdUptoCard : Claim7 := { stood := { row := integerGcdUptoRow, standIns := [], harness := (true, "3d2f797c2f422f79ca880c8cf7cc3592d795d518ac08b434fd8dc3a60044d74a"), looks := false }, kinds := [], alts := [], laidByText := true, laidKinds := [.data, .data, .data], laidTests := true, laidLooks := .later }
def IntegerGcdUptoCardSaid : Prop := Claim7.holds Tryd.pinned (.plain (OpenSpec.upto integerGcdSpec)) integerGcdUptoCard

/-- THE SECOND FORM's CARD OF 'torsionlaw01.IntegerPowers'. -/
def integerPowersUptoCard : Claim7 := { stood := { row := integerPowersUptoRow, standIns := [], harness := (true, "3d2f797c2f422f79ca880c8cf7cc3592d795d518ac08b434fd8dc3a60044d74a"), looks := false }, kinds := [], alts := [], laidByText := true, laidKinds := [.data, .data, .data], laidTests := true, laidLooks := .later }
def IntegerPowersUptoCardSaid : Prop := Claim7.holds Tryd.pinned (.plain (OpenSpec.upto integerPowersSpec)) integerPowersUptoCard

/-- THE SECOND FORM's CARD OF 'torsionlaw01.IntegerText'. -/
def integerTextUptoCard : Claim7 := { stood := { row := integerTextUptoRow, standIns := [], harness := (true, "3d2f797c2f422f79ca880c8cf7cc3592d795d518ac08b434fd8dc3a60044d74a"), looks := false }, kinds := [], alts := [], laidByText := true, laidKinds := [.data, .data, .data], laidTests := true, laidLooks := .later }
def IntegerTextUptoCardSaid : Prop := Claim7.holds Tryd.pinned (.plain (OpenSpec.upto integerTextSpec)) integerTextUptoCard

/-- THE SECOND FORM's CARD OF 'torsionlaw01.IntegerExt'. -/
def integerExtUptoCard : Claim7 := { stood := { row := integerExtUptoRow, standIns := [], harness := (true, "3d2f797c2f422f79ca880c8cf7cc3592d795d518ac08b434fd8dc3a60044d74a"), looks := false }, kinds := [], alts := [], laidByText := true, laidKinds := [.data, .data, .data], laidTests := true, laidLooks := .later }
def IntegerExtUptoCardSaid : Prop := Claim7.holds Tryd.pinned (.plain (OpenSpec.upto integerExtSpec)) integerExtUptoCard

/-- THE SECOND FORM's CARD OF 'torsionlaw01.IntegerRoots'. -/
def integerRootsUptoCard : Claim7 := { stood := { row := integerRootsUptoRow, standIns := [], harness := (true, "3d2f797c2f422f79ca880c8cf7cc3592d795d518ac08b434fd8dc3a60044d74a"), looks := false }, kinds := [], alts := [], laidByText := true, laidKinds := [.data, .data, .data], laidTests := true, laidLooks := .later }
def IntegerRootsUptoCardSaid : Prop := Claim7.holds Tryd.pinned (.plain (OpenSpec.upto integerRootsSpec)) integerRootsUptoCard
end Rows
end Go.Proofs.YtbpcgeanpkokkaaDoor
