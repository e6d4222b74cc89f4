/-
  DERIVED. GIVEN WITH THE SEED: THE CARDS: each row of YtdlfbhbgemoelaaGreatDoorRows.lean that lists a variable, with what it lists TIED to the program's text (the seventh form; the later family's looks); each row that meets fmt, with fmt's text TOLD by the authors' own Lean function (tested against real Go, not proved from fmt's source: count such statements apart). THE CARD IS WHAT COUNTS. Prove the row's statement (the work); the ties are given (YtdlfbhbgemoelaaGreatDoorTie.lean); close each card by the builder's one call (the guide's Derived/Test/ToyasCard.lean, 'card_holds'). Laid BY PROGRAM, IN A SANDBOX (cutbox-door.mjs). By AI agents, Wed Nov 11 2026. No macro, syntax, notation, axiom, sorry.
-/
import Derived.Test.YtdlfbhbgemoelaaGreatDoorRows
import GoSem.ClaimSeven
namespace Go.Proofs.YtdlfbhbgemoelaaGreatDoor
namespace Rows

/-- THE TIED CARD OF 'letterboxkeep.HouseMoves'. -/
def houseMovesCard : Claim7 := { stood := { row := houseMovesRow, standIns := [], harness := (true, "02ecd230e84fb2a09cd2807ff11c2057f0e771acdd5eb67ed6271fcd2eed1da0"), looks := true }, kinds := [], alts := [], laidByText := true, laidKinds := [.data, .data, .data, .data, .handle, .widerDeep, .pinned], laidTests := true, laidLooks := .later }
def HouseMovesCardSaid : Prop := Claim7.holds Tryz.pinned (.plain (OpenSpec.ofChange houseMovesSpec)) houseMovesCard

/-- THE SECOND FORM's CARD OF 'letterboxkeep.HouseMoves'. -/
def houseMovesUptoCard : Claim7 := { stood := { row := houseMovesUptoRow, standIns := [], harness := (true, "02ecd230e84fb2a09cd2807ff11c2057f0e771acdd5eb67ed6271fcd2eed1da0"), looks := true }, kinds := [], alts := [], laidByText := true, laidKinds := [.data, .data, .data, .data, .handle, .widerDeep, .pinned], laidTests := true, laidLooks := .later }
def HouseMovesUptoCardSaid : Prop := Claim7.holds Tryz.pinned (.plain (OpenSpec.upto houseMovesSpec)) houseMovesUptoCard
end Rows
end Go.Proofs.YtdlfbhbgemoelaaGreatDoor
