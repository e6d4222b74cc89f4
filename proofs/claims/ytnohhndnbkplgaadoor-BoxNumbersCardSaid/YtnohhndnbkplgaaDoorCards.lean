/-
  DERIVED. GIVEN WITH THE SEED: THE CARDS: each row of YtnohhndnbkplgaaDoorRows.lean that lists a variable, with what it lists TIED to the program's text (the seventh form; the later family's looks); each row that meets fmt, with fmt's text TOLD by the authors' own Lean function (tested against real Go, not proved from fmt's source: count such statements apart). THE CARD IS WHAT COUNTS. Prove the row's statement (the work); the ties are given (YtnohhndnbkplgaaDoorTie.lean); close each card by the builder's one call (the guide's Derived/Test/ToyasCard.lean, 'card_holds'). Laid BY PROGRAM, IN A SANDBOX (cutbox-door.mjs). By AI agents, Wed Nov 11 2026. No macro, syntax, notation, axiom, sorry.
-/
import Derived.Test.YtnohhndnbkplgaaDoorRows
import GoSem.ClaimSeven
namespace Go.Proofs.YtnohhndnbkplgaaDoor
namespace Rows

/-- THE TIED CARD OF 'letterboxkeep.BoxNumbers'. -/
def boxNumbersCard : Claim7 := { stood := { row := boxNumbersRow, standIns := [], harness := (true, "a6a54da4831a157a5ccb302f63b74a809fae1e7d2875051f3b19cc0c8c066907"), looks := false }, kinds := [], alts := [], laidByText := true, laidKinds := [.data, .widerDeep, .pinned], laidTests := true, laidLooks := .later }
def BoxNumbersCardSaid : Prop := Claim7.holds Tryd.pinned (.plain (OpenSpec.ofChange boxNumbersSpec)) boxNumbersCard

/-- THE SECOND FORM's CARD OF 'letterboxkeep.BoxNumbers'. -/
def boxNumbersUptoCard : Claim7 := { stood := { row := boxNumbersUptoRow, standIns := [], harness := (true, "a6a54da4831a157a5ccb302f63b74a809fae1e7d2875051f3b19cc0c8c066907"), looks := false }, kinds := [], alts := [], laidByText := true, laidKinds := [.data, .widerDeep, .pinned], laidTests := true, laidLooks := .later }
def BoxNumbersUptoCardSaid : Prop := Claim7.holds Tryd.pinned (.plain (OpenSpec.upto boxNumbersSpec)) boxNumbersUptoCard
end Rows
end Go.Proofs.YtnohhndnbkplgaaDoor
