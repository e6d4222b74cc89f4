/-
  DERIVED. GIVEN WITH THE SEED: THE CARDS: each row of YtdjmihnmhmdobaaDoorRows.lean that lists a variable, with what it lists TIED to the program's text (the seventh form; the later family's looks); each row that meets fmt, with fmt's text TOLD by the authors' own Lean function (tested against real Go, not proved from fmt's source: count such statements apart). THE CARD IS WHAT COUNTS. Prove the row's statement (the work); the ties are given (YtdjmihnmhmdobaaDoorTie.lean); close each card by the builder's one call (the guide's Derived/Test/ToyasCard.lean, 'card_holds'). Laid BY PROGRAM, IN A SANDBOX (cutbox-door.mjs). By AI agents, Wed Nov 11 2026. No macro, syntax, notation, axiom, sorry.
-/
import Derived.Test.YtdjmihnmhmdobaaDoorRows
import GoSem.ClaimSeven
namespace Go.Proofs.YtdjmihnmhmdobaaDoor
namespace Rows

/-- THE TIED CARD OF 'letterboxkeep.FlagsAlgebra'. -/
def flagsAlgebraCard : Claim7 := { stood := { row := flagsAlgebraRow, standIns := [], harness := (true, "edc6000da73aa42daeca99e26cea5796518e1a8e0f418740b6ce992457d295e3"), looks := false }, kinds := [], alts := [], laidByText := true, laidKinds := [.data, .widerDeep, .pinned], laidTests := true, laidLooks := .later }
def FlagsAlgebraCardSaid : Prop := Claim7.holds Tryd.pinned (.plain (OpenSpec.ofChange flagsAlgebraSpec)) flagsAlgebraCard

/-- THE SECOND FORM's CARD OF 'letterboxkeep.FlagsAlgebra'. -/
def flagsAlgebraUptoCard : Claim7 := { stood := { row := flagsAlgebraUptoRow, standIns := [], harness := (true, "edc6000da73aa42daeca99e26cea5796518e1a8e0f418740b6ce992457d295e3"), looks := false }, kinds := [], alts := [], laidByText := true, laidKinds := [.data, .widerDeep, .pinned], laidTests := true, laidLooks := .later }
def FlagsAlgebraUptoCardSaid : Prop := Claim7.holds Tryd.pinned (.plain (OpenSpec.upto flagsAlgebraSpec)) flagsAlgebraUptoCard
end Rows
end Go.Proofs.YtdjmihnmhmdobaaDoor
