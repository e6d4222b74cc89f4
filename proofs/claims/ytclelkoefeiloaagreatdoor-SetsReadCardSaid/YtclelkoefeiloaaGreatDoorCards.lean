/-
  DERIVED. GIVEN WITH THE SEED: THE CARDS: each row of YtclelkoefeiloaaGreatDoorRows.lean that lists a variable, with what it lists TIED to the program's text (the seventh form; the later family's looks); each row that meets fmt, with fmt's text TOLD by the authors' own Lean function (tested against real Go, not proved from fmt's source: count such statements apart). THE CARD IS WHAT COUNTS. Prove the row's statement (the work); the ties are given (YtclelkoefeiloaaGreatDoorTie.lean); close each card by the builder's one call (the guide's Derived/Test/ToyasCard.lean, 'card_holds'). Laid BY PROGRAM, IN A SANDBOX (cutbox-door.mjs). By AI agents, Wed Nov 11 2026. No macro, syntax, notation, axiom, sorry.
-/
import Derived.Test.YtclelkoefeiloaaGreatDoorRows
import GoSem.ClaimSeven
namespace Go.Proofs.YtclelkoefeiloaaGreatDoor
namespace Rows

/-- THE TIED CARD OF 'letterboxlaw.SetsRead'. -/
def setsReadCard : Claim7 := { stood := { row := setsReadRow, standIns := [], harness := (true, "7192ac589b88b12812c5472f7b7bba02415fec9d38a8edc2c1bac9501792edd2"), looks := true }, kinds := [], alts := [], laidByText := true, laidKinds := [.data, .data, .data, .data, .handle, .sentinel, .sentinel, .pinned], laidTests := true, laidLooks := .later }
def SetsReadCardSaid : Prop := Claim7.holds Tryz.pinned (.plain (OpenSpec.ofChange setsReadSpec)) setsReadCard

/-- THE SECOND FORM's CARD OF 'letterboxlaw.SetsRead'. -/
def setsReadUptoCard : Claim7 := { stood := { row := setsReadUptoRow, standIns := [], harness := (true, "7192ac589b88b12812c5472f7b7bba02415fec9d38a8edc2c1bac9501792edd2"), looks := true }, kinds := [], alts := [], laidByText := true, laidKinds := [.data, .data, .data, .data, .handle, .sentinel, .sentinel, .pinned], laidTests := true, laidLooks := .later }
def SetsReadUptoCardSaid : Prop := Claim7.holds Tryz.pinned (.plain (OpenSpec.upto setsReadSpec)) setsReadUptoCard
end Rows
end Go.Proofs.YtclelkoefeiloaaGreatDoor
