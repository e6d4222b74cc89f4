/-
  DERIVED. GIVEN WITH THE SEED: THE CARDS: each row of YtciekajclfnnpaaGreatDoorRows.lean that lists a variable, with what it lists TIED to the program's text (the seventh form; the later family's looks); each row that meets fmt, with fmt's text TOLD by the authors' own Lean function (tested against real Go, not proved from fmt's source: count such statements apart). THE CARD IS WHAT COUNTS. Prove the row's statement (the work); the ties are given (YtciekajclfnnpaaGreatDoorTie.lean); close each card by the builder's one call (the guide's Derived/Test/ToyasCard.lean, 'card_holds'). Laid BY PROGRAM, IN A SANDBOX (cutbox-door.mjs). By AI agents, Wed Nov 11 2026. No macro, syntax, notation, axiom, sorry.
-/
import Derived.Test.YtciekajclfnnpaaGreatDoorRows
import GoSem.ClaimSeven
namespace Go.Proofs.YtciekajclfnnpaaGreatDoor
namespace Rows

/-- THE TIED CARD OF 'letterboxkeep.WireQuote'. -/
def wireQuoteCard : Claim7 := { stood := { row := wireQuoteRow, standIns := [], harness := (true, "22840949e08547429a4d959bde268e65981ee3a629bd28a5d2ace2db9eb5b0f4"), looks := true }, kinds := [], alts := [], laidByText := true, laidKinds := [.data, .data, .data, .data, .sentinel, .sentinel, .pinned, .pinned], laidTests := true, laidLooks := .later }
def WireQuoteCardSaid : Prop := Claim7.holds Tryz.pinned (.plain (OpenSpec.ofChange wireQuoteSpec)) wireQuoteCard

/-- THE SECOND FORM's CARD OF 'letterboxkeep.WireQuote'. -/
def wireQuoteUptoCard : Claim7 := { stood := { row := wireQuoteUptoRow, standIns := [], harness := (true, "22840949e08547429a4d959bde268e65981ee3a629bd28a5d2ace2db9eb5b0f4"), looks := true }, kinds := [], alts := [], laidByText := true, laidKinds := [.data, .data, .data, .data, .sentinel, .sentinel, .pinned, .pinned], laidTests := true, laidLooks := .later }
def WireQuoteUptoCardSaid : Prop := Claim7.holds Tryz.pinned (.plain (OpenSpec.upto wireQuoteSpec)) wireQuoteUptoCard
end Rows
end Go.Proofs.YtciekajclfnnpaaGreatDoor
