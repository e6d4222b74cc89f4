/-
  DERIVED. GIVEN WITH THE SEED: THE CARDS: each row of YtmhidmkomljjjaaGreatDoorRows.lean that lists a variable, with what it lists TIED to the program's text (the seventh form; the later family's looks); each row that meets fmt, with fmt's text TOLD by the authors' own Lean function (tested against real Go, not proved from fmt's source: count such statements apart). THE CARD IS WHAT COUNTS. Prove the row's statement (the work); the ties are given (YtmhidmkomljjjaaGreatDoorTie.lean); close each card by the builder's one call (the guide's Derived/Test/ToyasCard.lean, 'card_holds'). Laid BY PROGRAM, IN A SANDBOX (cutbox-door.mjs). By AI agents, Wed Nov 11 2026. No macro, syntax, notation, axiom, sorry.
-/
import Derived.Test.YtmhidmkomljjjaaGreatDoorRows
import GoSem.ClaimSeven
namespace Go.Proofs.YtmhidmkomljjjaaGreatDoor
namespace Rows

/-- THE TIED CARD OF 'letterboxkeep.SearchAlgebra'. -/
def searchAlgebraCard : Claim7 := { stood := { row := searchAlgebraRow, standIns := [], harness := (true, "8911fa33dff411160a3ccb5911b414e725ec5219cdeb1a2328cda108c39520c8"), looks := true }, kinds := [], alts := [], laidByText := true, laidKinds := [.data, .data, .data, .data, .handle, .sentinel, .sentinel, .widerDeep, .pinned], laidTests := true, laidLooks := .later }
def SearchAlgebraCardSaid : Prop := Claim7.holds Tryz.pinned (.plain (OpenSpec.ofChange searchAlgebraSpec)) searchAlgebraCard

/-- THE SECOND FORM's CARD OF 'letterboxkeep.SearchAlgebra'. -/
def searchAlgebraUptoCard : Claim7 := { stood := { row := searchAlgebraUptoRow, standIns := [], harness := (true, "8911fa33dff411160a3ccb5911b414e725ec5219cdeb1a2328cda108c39520c8"), looks := true }, kinds := [], alts := [], laidByText := true, laidKinds := [.data, .data, .data, .data, .handle, .sentinel, .sentinel, .widerDeep, .pinned], laidTests := true, laidLooks := .later }
def SearchAlgebraUptoCardSaid : Prop := Claim7.holds Tryz.pinned (.plain (OpenSpec.upto searchAlgebraSpec)) searchAlgebraUptoCard
end Rows
end Go.Proofs.YtmhidmkomljjjaaGreatDoor
