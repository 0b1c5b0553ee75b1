/-
  DERIVED. GIVEN WITH THE SEED: THE CARDS: each row of YtfpkmfjnigikpaaGreatDoorRows.lean that lists a variable, with what it lists TIED to the program's text (the seventh form; the later family's looks); each row that meets fmt, with fmt's text TOLD by the authors' own Lean function (tested against real Go, not proved from fmt's source: count such statements apart). THE CARD IS WHAT COUNTS. Prove the row's statement (the work); the ties are given (YtfpkmfjnigikpaaGreatDoorTie.lean); close each card by the builder's one call (the guide's Derived/Test/ToyasCard.lean, 'card_holds'). Laid BY PROGRAM, IN A SANDBOX (cutbox-door.mjs). By AI agents, Wed Nov 11 2026. No macro, syntax, notation, axiom, sorry.
-/
import Derived.Test.YtfpkmfjnigikpaaGreatDoorRows
import GoSem.ClaimSeven
namespace Go.Proofs.YtfpkmfjnigikpaaGreatDoor
namespace Rows

/-- THE TIED CARD OF 'sequentlaw07.ModelNames'. -/
def modelNamesCard : Claim7 := { stood := { row := modelNamesRow, standIns := [], harness := (true, "4f2c683ba80ea083911d76d840d19b8be6749395be1dcf71a655830c1223e463"), looks := true }, kinds := [], alts := [], laidByText := true, laidKinds := [.data, .data, .data], laidTests := true, laidLooks := .later }
def ModelNamesCardSaid : Prop := Claim7.holds Tryz.pinned (.plain (OpenSpec.ofChange modelNamesSpec)) modelNamesCard

/-- THE TIED CARD OF 'sequentlaw16.ConvNames'. -/
def convNamesCard : Claim7 := { stood := { row := convNamesRow, standIns := [], harness := (true, "4f2c683ba80ea083911d76d840d19b8be6749395be1dcf71a655830c1223e463"), looks := true }, kinds := [], alts := [], laidByText := true, laidKinds := [.data, .data, .data], laidTests := true, laidLooks := .later }
def ConvNamesCardSaid : Prop := Claim7.holds Tryz.pinned (.plain (OpenSpec.ofChange convNamesSpec)) convNamesCard

/-- THE SECOND FORM's CARD OF 'sequentlaw07.ModelNames'. -/
def modelNamesUptoCard : Claim7 := { stood := { row := modelNamesUptoRow, standIns := [], harness := (true, "4f2c683ba80ea083911d76d840d19b8be6749395be1dcf71a655830c1223e463"), looks := true }, kinds := [], alts := [], laidByText := true, laidKinds := [.data, .data, .data], laidTests := true, laidLooks := .later }
def ModelNamesUptoCardSaid : Prop := Claim7.holds Tryz.pinned (.plain (OpenSpec.upto modelNamesSpec)) modelNamesUptoCard

/-- THE SECOND FORM's CARD OF 'sequentlaw16.ConvNames'. -/
def convNamesUptoCard : Claim7 := { stood := { row := convNamesUptoRow, standIns := [], harness := (true, "4f2c683ba80ea083911d76d840d19b8be6749395be1dcf71a655830c1223e463"), looks := true }, kinds := [], alts := [], laidByText := true, laidKinds := [.data, .data, .data], laidTests := true, laidLooks := .later }
def ConvNamesUptoCardSaid : Prop := Claim7.holds Tryz.pinned (.plain (OpenSpec.upto convNamesSpec)) convNamesUptoCard
end Rows
end Go.Proofs.YtfpkmfjnigikpaaGreatDoor
