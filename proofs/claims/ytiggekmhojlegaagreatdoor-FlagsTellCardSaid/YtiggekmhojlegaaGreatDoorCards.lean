/-
  DERIVED. GIVEN WITH THE SEED: THE CARDS: each row of YtiggekmhojlegaaGreatDoorRows.lean that lists a variable, with what it lists TIED to the program's text (the seventh form; the later family's looks); each row that meets fmt, with fmt's text TOLD by the authors' own Lean function (tested against real Go, not proved from fmt's source: count such statements apart). THE CARD IS WHAT COUNTS. Prove the row's statement (the work); the ties are given (YtiggekmhojlegaaGreatDoorTie.lean); close each card by the builder's one call (the guide's Derived/Test/ToyasCard.lean, 'card_holds'). Laid BY PROGRAM, IN A SANDBOX (cutbox-door.mjs). By AI agents, Wed Nov 11 2026. No macro, syntax, notation, axiom, sorry.
-/
import Derived.Test.YtiggekmhojlegaaGreatDoorRows
import GoSem.ClaimSeven
namespace Go.Proofs.YtiggekmhojlegaaGreatDoor
namespace Rows

/-- THE TIED CARD OF 'letterboxlaw.FlagsTell'. -/
def flagsTellCard : Claim7 := { stood := { row := flagsTellRow, standIns := [], harness := (true, "5462080ba3b51c11dabbd71678925c81837b311a4faa7700ecb093e113290267"), looks := true }, kinds := [], alts := [], laidByText := true, laidKinds := [.data, .handle, .widerDeep, .pinned], laidTests := true, laidLooks := .later }
def FlagsTellCardSaid : Prop := Claim7.holds Tryz.pinned (.plain (OpenSpec.ofChange flagsTellSpec)) flagsTellCard

/-- THE SECOND FORM's CARD OF 'letterboxlaw.FlagsTell'. -/
def flagsTellUptoCard : Claim7 := { stood := { row := flagsTellUptoRow, standIns := [], harness := (true, "5462080ba3b51c11dabbd71678925c81837b311a4faa7700ecb093e113290267"), looks := true }, kinds := [], alts := [], laidByText := true, laidKinds := [.data, .handle, .widerDeep, .pinned], laidTests := true, laidLooks := .later }
def FlagsTellUptoCardSaid : Prop := Claim7.holds Tryz.pinned (.plain (OpenSpec.upto flagsTellSpec)) flagsTellUptoCard
end Rows
end Go.Proofs.YtiggekmhojlegaaGreatDoor
