/-
  DERIVED. GIVEN WITH THE SEED: THE CARDS: each row of YtmjfhhladicacaaGreatDoorRows.lean that lists a variable, with what it lists TIED to the program's text (the seventh form; the later family's looks); each row that meets fmt, with fmt's text TOLD by the authors' own Lean function (tested against real Go, not proved from fmt's source: count such statements apart). THE CARD IS WHAT COUNTS. Prove the row's statement (the work); the ties are given (YtmjfhhladicacaaGreatDoorTie.lean); close each card by the builder's one call (the guide's Derived/Test/ToyasCard.lean, 'card_holds'). Laid BY PROGRAM, IN A SANDBOX (cutbox-door.mjs). By AI agents, Wed Nov 11 2026. No macro, syntax, notation, axiom, sorry.
-/
import Derived.Test.YtmjfhhladicacaaGreatDoorRows
import GoSem.ClaimSeven
namespace Go.Proofs.YtmjfhhladicacaaGreatDoor
namespace Rows

/-- THE TIED CARD OF 'letterboxlaw.MimeParts'. -/
def mimePartsCard : Claim7 := { stood := { row := mimePartsRow, standIns := [], harness := (true, "be81fe9f13cb2538dc9f37b9321fbec50b089f66ec80491d40d68e4d9552f9d5"), looks := true }, kinds := [], alts := [], laidByText := true, laidKinds := [.data, .data, .data, .data, .handle, .data, .pinned], laidTests := true, laidLooks := .later }
def MimePartsCardSaid : Prop := Claim7.holds Tryz.pinned (.plain (OpenSpec.ofChange mimePartsSpec)) mimePartsCard

/-- THE SECOND FORM's CARD OF 'letterboxlaw.MimeParts'. -/
def mimePartsUptoCard : Claim7 := { stood := { row := mimePartsUptoRow, standIns := [], harness := (true, "be81fe9f13cb2538dc9f37b9321fbec50b089f66ec80491d40d68e4d9552f9d5"), looks := true }, kinds := [], alts := [], laidByText := true, laidKinds := [.data, .data, .data, .data, .handle, .data, .pinned], laidTests := true, laidLooks := .later }
def MimePartsUptoCardSaid : Prop := Claim7.holds Tryz.pinned (.plain (OpenSpec.upto mimePartsSpec)) mimePartsUptoCard
end Rows
end Go.Proofs.YtmjfhhladicacaaGreatDoor
