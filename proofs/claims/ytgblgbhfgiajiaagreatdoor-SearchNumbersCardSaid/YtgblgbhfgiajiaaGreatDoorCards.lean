/-
  DERIVED. GIVEN WITH THE SEED: THE CARDS: each row of YtgblgbhfgiajiaaGreatDoorRows.lean that lists a variable, with what it lists TIED to the program's text (the seventh form; the later family's looks); each row that meets fmt, with fmt's text TOLD by the authors' own Lean function (tested against real Go, not proved from fmt's source: count such statements apart). THE CARD IS WHAT COUNTS. Prove the row's statement (the work); the ties are given (YtgblgbhfgiajiaaGreatDoorTie.lean); close each card by the builder's one call (the guide's Derived/Test/ToyasCard.lean, 'card_holds'). Laid BY PROGRAM, IN A SANDBOX (cutbox-door.mjs). By AI agents, Wed Nov 11 2026. No macro, syntax, notation, axiom, sorry.
-/
import Derived.Test.YtgblgbhfgiajiaaGreatDoorRows
import GoSem.ClaimSeven
namespace Go.Proofs.YtgblgbhfgiajiaaGreatDoor
namespace Rows

/-- THE TIED CARD OF 'letterboxkeep.SearchNumbers'. -/
def searchNumbersCard : Claim7 := { stood := { row := searchNumbersRow, standIns := [], harness := (true, "6b9339f11d5c741ee373b165b27f257071669f915f108a45c28959d0f74b4e8a"), looks := true }, kinds := [], alts := [], laidByText := true, laidKinds := [.data, .data, .data, .data, .handle, .sentinel, .sentinel, .widerDeep, .pinned], laidTests := true, laidLooks := .later }
def SearchNumbersCardSaid : Prop := Claim7.holds Tryz.pinned (.plain (OpenSpec.ofChange searchNumbersSpec)) searchNumbersCard

/-- THE SECOND FORM's CARD OF 'letterboxkeep.SearchNumbers'. -/
def searchNumbersUptoCard : Claim7 := { stood := { row := searchNumbersUptoRow, standIns := [], harness := (true, "6b9339f11d5c741ee373b165b27f257071669f915f108a45c28959d0f74b4e8a"), looks := true }, kinds := [], alts := [], laidByText := true, laidKinds := [.data, .data, .data, .data, .handle, .sentinel, .sentinel, .widerDeep, .pinned], laidTests := true, laidLooks := .later }
def SearchNumbersUptoCardSaid : Prop := Claim7.holds Tryz.pinned (.plain (OpenSpec.upto searchNumbersSpec)) searchNumbersUptoCard
end Rows
end Go.Proofs.YtgblgbhfgiajiaaGreatDoor
