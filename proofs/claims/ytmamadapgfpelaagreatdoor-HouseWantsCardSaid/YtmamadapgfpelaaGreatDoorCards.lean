/-
  DERIVED. GIVEN WITH THE SEED: THE CARDS: each row of YtmamadapgfpelaaGreatDoorRows.lean that lists a variable, with what it lists TIED to the program's text (the seventh form; the later family's looks); each row that meets fmt, with fmt's text TOLD by the authors' own Lean function (tested against real Go, not proved from fmt's source: count such statements apart). THE CARD IS WHAT COUNTS. Prove the row's statement (the work); the ties are given (YtmamadapgfpelaaGreatDoorTie.lean); close each card by the builder's one call (the guide's Derived/Test/ToyasCard.lean, 'card_holds'). Laid BY PROGRAM, IN A SANDBOX (cutbox-door.mjs). By AI agents, Wed Nov 11 2026. No macro, syntax, notation, axiom, sorry.
-/
import Derived.Test.YtmamadapgfpelaaGreatDoorRows
import GoSem.ClaimSeven
namespace Go.Proofs.YtmamadapgfpelaaGreatDoor
namespace Rows

/-- THE TIED CARD OF 'letterboxkeep.HouseWants'. -/
def houseWantsCard : Claim7 := { stood := { row := houseWantsRow, standIns := [], harness := (true, "9cfe823ac3c3d4f5e2bfaaab6405eab18c01a0602b1719f60e4ab7c92c6ab115"), looks := true }, kinds := [], alts := [], laidByText := true, laidKinds := [.data, .handle, .widerDeep, .pinned], laidTests := true, laidLooks := .later }
def HouseWantsCardSaid : Prop := Claim7.holds Tryz.pinned (.plain (OpenSpec.ofChange houseWantsSpec)) houseWantsCard

/-- THE SECOND FORM's CARD OF 'letterboxkeep.HouseWants'. -/
def houseWantsUptoCard : Claim7 := { stood := { row := houseWantsUptoRow, standIns := [], harness := (true, "9cfe823ac3c3d4f5e2bfaaab6405eab18c01a0602b1719f60e4ab7c92c6ab115"), looks := true }, kinds := [], alts := [], laidByText := true, laidKinds := [.data, .handle, .widerDeep, .pinned], laidTests := true, laidLooks := .later }
def HouseWantsUptoCardSaid : Prop := Claim7.holds Tryz.pinned (.plain (OpenSpec.upto houseWantsSpec)) houseWantsUptoCard
end Rows
end Go.Proofs.YtmamadapgfpelaaGreatDoor
