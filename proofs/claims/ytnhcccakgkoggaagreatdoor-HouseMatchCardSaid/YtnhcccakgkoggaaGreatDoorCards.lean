/-
  DERIVED. GIVEN WITH THE SEED: THE CARDS: each row of YtnhcccakgkoggaaGreatDoorRows.lean that lists a variable, with what it lists TIED to the program's text (the seventh form; the later family's looks); each row that meets fmt, with fmt's text TOLD by the authors' own Lean function (tested against real Go, not proved from fmt's source: count such statements apart). THE CARD IS WHAT COUNTS. Prove the row's statement (the work); the ties are given (YtnhcccakgkoggaaGreatDoorTie.lean); close each card by the builder's one call (the guide's Derived/Test/ToyasCard.lean, 'card_holds'). Laid BY PROGRAM, IN A SANDBOX (cutbox-door.mjs). By AI agents, Wed Nov 11 2026. No macro, syntax, notation, axiom, sorry.
-/
import Derived.Test.YtnhcccakgkoggaaGreatDoorRows
import GoSem.ClaimSeven
namespace Go.Proofs.YtnhcccakgkoggaaGreatDoor
namespace Rows

/-- THE TIED CARD OF 'letterboxkeep.HouseMatch'. -/
def houseMatchCard : Claim7 := { stood := { row := houseMatchRow, standIns := [], harness := (true, "b1443da343a1d9054929184f9b33cecfd310cc329b2c9e241243a5a7bfd51ba9"), looks := true }, kinds := [], alts := [], laidByText := true, laidKinds := [.data, .handle, .pinned], laidTests := true, laidLooks := .later }
def HouseMatchCardSaid : Prop := Claim7.holds Tryz.pinned (.plain (OpenSpec.ofChange houseMatchSpec)) houseMatchCard

/-- THE SECOND FORM's CARD OF 'letterboxkeep.HouseMatch'. -/
def houseMatchUptoCard : Claim7 := { stood := { row := houseMatchUptoRow, standIns := [], harness := (true, "b1443da343a1d9054929184f9b33cecfd310cc329b2c9e241243a5a7bfd51ba9"), looks := true }, kinds := [], alts := [], laidByText := true, laidKinds := [.data, .handle, .pinned], laidTests := true, laidLooks := .later }
def HouseMatchUptoCardSaid : Prop := Claim7.holds Tryz.pinned (.plain (OpenSpec.upto houseMatchSpec)) houseMatchUptoCard
end Rows
end Go.Proofs.YtnhcccakgkoggaaGreatDoor
