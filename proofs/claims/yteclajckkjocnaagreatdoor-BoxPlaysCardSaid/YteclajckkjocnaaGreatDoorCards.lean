/-
  DERIVED. GIVEN WITH THE SEED: THE CARDS: each row of YteclajckkjocnaaGreatDoorRows.lean that lists a variable, with what it lists TIED to the program's text (the seventh form; the later family's looks); each row that meets fmt, with fmt's text TOLD by the authors' own Lean function (tested against real Go, not proved from fmt's source: count such statements apart). THE CARD IS WHAT COUNTS. Prove the row's statement (the work); the ties are given (YteclajckkjocnaaGreatDoorTie.lean); close each card by the builder's one call (the guide's Derived/Test/ToyasCard.lean, 'card_holds'). Laid BY PROGRAM, IN A SANDBOX (cutbox-door.mjs). By AI agents, Wed Nov 11 2026. No macro, syntax, notation, axiom, sorry.
-/
import Derived.Test.YteclajckkjocnaaGreatDoorRows
import GoSem.ClaimSeven
namespace Go.Proofs.YteclajckkjocnaaGreatDoor
namespace Rows

/-- THE TIED CARD OF 'letterboxlaw.BoxPlays'. -/
def boxPlaysCard : Claim7 := { stood := { row := boxPlaysRow, standIns := [], harness := (true, "1baa752ff7ecdf22003cef5016b2868b34ce09527688bcc5e872f138a77771db"), looks := true }, kinds := [], alts := [], laidByText := true, laidKinds := [.data, .handle, .widerDeep, .pinned], laidTests := true, laidLooks := .later }
def BoxPlaysCardSaid : Prop := Claim7.holds Tryz.pinned (.plain (OpenSpec.ofChange boxPlaysSpec)) boxPlaysCard

/-- THE SECOND FORM's CARD OF 'letterboxlaw.BoxPlays'. -/
def boxPlaysUptoCard : Claim7 := { stood := { row := boxPlaysUptoRow, standIns := [], harness := (true, "1baa752ff7ecdf22003cef5016b2868b34ce09527688bcc5e872f138a77771db"), looks := true }, kinds := [], alts := [], laidByText := true, laidKinds := [.data, .handle, .widerDeep, .pinned], laidTests := true, laidLooks := .later }
def BoxPlaysUptoCardSaid : Prop := Claim7.holds Tryz.pinned (.plain (OpenSpec.upto boxPlaysSpec)) boxPlaysUptoCard
end Rows
end Go.Proofs.YteclajckkjocnaaGreatDoor
