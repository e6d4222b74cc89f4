/-
  DERIVED. GIVEN WITH THE SEED: THE CARDS: each row of YtkaagodacjgoaaaDoorRows.lean that lists a variable, with what it lists TIED to the program's text (the seventh form; the later family's looks); each row that meets fmt, with fmt's text TOLD by the authors' own Lean function (tested against real Go, not proved from fmt's source: count such statements apart). THE CARD IS WHAT COUNTS. Prove the row's statement (the work); the ties are given (YtkaagodacjgoaaaDoorTie.lean); close each card by the builder's one call (the guide's Derived/Test/ToyasCard.lean, 'card_holds'). Laid BY PROGRAM, IN A SANDBOX (cutbox-door.mjs). By AI agents, Wed Nov 11 2026. No macro, syntax, notation, axiom, sorry.
-/
import Derived.Test.YtkaagodacjgoaaaDoorRows
import GoSem.ClaimSeven
namespace Go.Proofs.YtkaagodacjgoaaaDoor
namespace Rows

/-- THE TIED CARD OF 'letterboxkeep.NamesBack'. -/
def namesBackCard : Claim7 := { stood := { row := namesBackRow, standIns := [], harness := (true, "b26c237bee78c32b6db1a372b069dd99c7e8ee18d1efc181acfff77f78054ca6"), looks := true }, kinds := [], alts := [], laidByText := true, laidKinds := [.data, .pinned], laidTests := true, laidLooks := .later }
def NamesBackCardSaid : Prop := Claim7.holds Tryd.pinned (.plain (OpenSpec.ofChange namesBackSpec)) namesBackCard

/-- THE TIED CARD OF 'letterboxlaw.NamesGo'. -/
def namesGoCard : Claim7 := { stood := { row := namesGoRow, standIns := [], harness := (true, "b26c237bee78c32b6db1a372b069dd99c7e8ee18d1efc181acfff77f78054ca6"), looks := true }, kinds := [], alts := [], laidByText := true, laidKinds := [.data, .handle, .pinned], laidTests := true, laidLooks := .later }
def NamesGoCardSaid : Prop := Claim7.holds Tryd.pinned (.plain (OpenSpec.ofChange namesGoSpec)) namesGoCard

/-- THE SECOND FORM's CARD OF 'letterboxkeep.NamesBack'. -/
def namesBackUptoCard : Claim7 := { stood := { row := namesBackUptoRow, standIns := [], harness := (true, "b26c237bee78c32b6db1a372b069dd99c7e8ee18d1efc181acfff77f78054ca6"), looks := true }, kinds := [], alts := [], laidByText := true, laidKinds := [.data, .pinned], laidTests := true, laidLooks := .later }
def NamesBackUptoCardSaid : Prop := Claim7.holds Tryd.pinned (.plain (OpenSpec.upto namesBackSpec)) namesBackUptoCard

/-- THE SECOND FORM's CARD OF 'letterboxlaw.NamesGo'. -/
def namesGoUptoCard : Claim7 := { stood := { row := namesGoUptoRow, standIns := [], harness := (true, "b26c237bee78c32b6db1a372b069dd99c7e8ee18d1efc181acfff77f78054ca6"), looks := true }, kinds := [], alts := [], laidByText := true, laidKinds := [.data, .handle, .pinned], laidTests := true, laidLooks := .later }
def NamesGoUptoCardSaid : Prop := Claim7.holds Tryd.pinned (.plain (OpenSpec.upto namesGoSpec)) namesGoUptoCard
end Rows
end Go.Proofs.YtkaagodacjgoaaaDoor
