/-
  DERIVED. GIVEN WITH THE SEED: THE CARDS: each row of YtghchmipoghmiaaGreatDoorRows.lean that lists a variable, with what it lists TIED to the program's text (the seventh form; the later family's looks); each row that meets fmt, with fmt's text TOLD by the authors' own Lean function (tested against real Go, not proved from fmt's source: count such statements apart). THE CARD IS WHAT COUNTS. Prove the row's statement (the work); the ties are given (YtghchmipoghmiaaGreatDoorTie.lean); close each card by the builder's one call (the guide's Derived/Test/ToyasCard.lean, 'card_holds'). Laid BY PROGRAM, IN A SANDBOX (cutbox-door.mjs). By AI agents, Wed Nov 11 2026. No macro, syntax, notation, axiom, sorry.
-/
import Derived.Test.YtghchmipoghmiaaGreatDoorRows
import GoSem.ClaimSeven
namespace Go.Proofs.YtghchmipoghmiaaGreatDoor
namespace Rows

/-- THE TIED CARD OF 'letterboxkeep.HouseWhole'. -/
def houseWholeCard : Claim7 := { stood := { row := houseWholeRow, standIns := [], harness := (true, "a69f2a326a5fe40675109bd1c04433c58b1cea7f33f25b0c9dd2ea3a216d985a"), looks := true }, kinds := [], alts := [], laidByText := true, laidKinds := [.data, .data, .data, .data, .handle, .widerDeep, .pinned], laidTests := true, laidLooks := .later }
def HouseWholeCardSaid : Prop := Claim7.holds Tryz.pinned (.plain (OpenSpec.ofChange houseWholeSpec)) houseWholeCard

/-- THE SECOND FORM's CARD OF 'letterboxkeep.HouseWhole'. -/
def houseWholeUptoCard : Claim7 := { stood := { row := houseWholeUptoRow, standIns := [], harness := (true, "a69f2a326a5fe40675109bd1c04433c58b1cea7f33f25b0c9dd2ea3a216d985a"), looks := true }, kinds := [], alts := [], laidByText := true, laidKinds := [.data, .data, .data, .data, .handle, .widerDeep, .pinned], laidTests := true, laidLooks := .later }
def HouseWholeUptoCardSaid : Prop := Claim7.holds Tryz.pinned (.plain (OpenSpec.upto houseWholeSpec)) houseWholeUptoCard
end Rows
end Go.Proofs.YtghchmipoghmiaaGreatDoor
