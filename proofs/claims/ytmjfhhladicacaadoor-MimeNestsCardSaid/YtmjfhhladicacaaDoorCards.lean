/-
  DERIVED. GIVEN WITH THE SEED: THE CARDS: each row of YtmjfhhladicacaaDoorRows.lean that lists a variable, with what it lists TIED to the program's text (the seventh form; the later family's looks); each row that meets fmt, with fmt's text TOLD by the authors' own Lean function (tested against real Go, not proved from fmt's source: count such statements apart). THE CARD IS WHAT COUNTS. Prove the row's statement (the work); the ties are given (YtmjfhhladicacaaDoorTie.lean); close each card by the builder's one call (the guide's Derived/Test/ToyasCard.lean, 'card_holds'). Laid BY PROGRAM, IN A SANDBOX (cutbox-door.mjs). By AI agents, Wed Nov 11 2026. No macro, syntax, notation, axiom, sorry.
-/
import Derived.Test.YtmjfhhladicacaaDoorRows
import GoSem.ClaimSeven
namespace Go.Proofs.YtmjfhhladicacaaDoor
namespace Rows

/-- THE TIED CARD OF 'letterboxkeep.HeadCase'. -/
def headCaseCard : Claim7 := { stood := { row := headCaseRow, standIns := [], harness := (true, "d324e76339cdb0633f14d63b12695cb1ab481ec62b951b7f04232648c1ed4bb9"), looks := true }, kinds := [], alts := [], laidByText := true, laidKinds := [.data, .pinned], laidTests := true, laidLooks := .later }
def HeadCaseCardSaid : Prop := Claim7.holds Tryd.pinned (.plain (OpenSpec.ofChange headCaseSpec)) headCaseCard

/-- THE TIED CARD OF 'letterboxkeep.MimeNests'. -/
def mimeNestsCard : Claim7 := { stood := { row := mimeNestsRow, standIns := [], harness := (true, "d324e76339cdb0633f14d63b12695cb1ab481ec62b951b7f04232648c1ed4bb9"), looks := true }, kinds := [], alts := [], laidByText := true, laidKinds := [.data, .pinned], laidTests := true, laidLooks := .later }
def MimeNestsCardSaid : Prop := Claim7.holds Tryd.pinned (.plain (OpenSpec.ofChange mimeNestsSpec)) mimeNestsCard

/-- THE TIED CARD OF 'letterboxlaw.HeadReads'. -/
def headReadsCard : Claim7 := { stood := { row := headReadsRow, standIns := [], harness := (true, "d324e76339cdb0633f14d63b12695cb1ab481ec62b951b7f04232648c1ed4bb9"), looks := true }, kinds := [], alts := [], laidByText := true, laidKinds := [.data, .handle, .data, .pinned], laidTests := true, laidLooks := .later }
def HeadReadsCardSaid : Prop := Claim7.holds Tryd.pinned (.plain (OpenSpec.ofChange headReadsSpec)) headReadsCard

/-- THE TIED CARD OF 'letterboxkeep.HeadBack'. -/
def headBackCard : Claim7 := { stood := { row := headBackRow, standIns := [], harness := (true, "d324e76339cdb0633f14d63b12695cb1ab481ec62b951b7f04232648c1ed4bb9"), looks := true }, kinds := [], alts := [], laidByText := true, laidKinds := [.data, .pinned, .pinned], laidTests := true, laidLooks := .later }
def HeadBackCardSaid : Prop := Claim7.holds Tryd.pinned (.plain (OpenSpec.ofChange headBackSpec)) headBackCard

/-- THE SECOND FORM's CARD OF 'letterboxkeep.HeadCase'. -/
def headCaseUptoCard : Claim7 := { stood := { row := headCaseUptoRow, standIns := [], harness := (true, "d324e76339cdb0633f14d63b12695cb1ab481ec62b951b7f04232648c1ed4bb9"), looks := true }, kinds := [], alts := [], laidByText := true, laidKinds := [.data, .pinned], laidTests := true, laidLooks := .later }
def HeadCaseUptoCardSaid : Prop := Claim7.holds Tryd.pinned (.plain (OpenSpec.upto headCaseSpec)) headCaseUptoCard

/-- THE SECOND FORM's CARD OF 'letterboxkeep.MimeNests'. -/
def mimeNestsUptoCard : Claim7 := { stood := { row := mimeNestsUptoRow, standIns := [], harness := (true, "d324e76339cdb0633f14d63b12695cb1ab481ec62b951b7f04232648c1ed4bb9"), looks := true }, kinds := [], alts := [], laidByText := true, laidKinds := [.data, .pinned], laidTests := true, laidLooks := .later }
def MimeNestsUptoCardSaid : Prop := Claim7.holds Tryd.pinned (.plain (OpenSpec.upto mimeNestsSpec)) mimeNestsUptoCard

/-- THE SECOND FORM's CARD OF 'letterboxlaw.HeadReads'. -/
def headReadsUptoCard : Claim7 := { stood := { row := headReadsUptoRow, standIns := [], harness := (true, "d324e76339cdb0633f14d63b12695cb1ab481ec62b951b7f04232648c1ed4bb9"), looks := true }, kinds := [], alts := [], laidByText := true, laidKinds := [.data, .handle, .data, .pinned], laidTests := true, laidLooks := .later }
def HeadReadsUptoCardSaid : Prop := Claim7.holds Tryd.pinned (.plain (OpenSpec.upto headReadsSpec)) headReadsUptoCard

/-- THE SECOND FORM's CARD OF 'letterboxkeep.HeadBack'. -/
def headBackUptoCard : Claim7 := { stood := { row := headBackUptoRow, standIns := [], harness := (true, "d324e76339cdb0633f14d63b12695cb1ab481ec62b951b7f04232648c1ed4bb9"), looks := true }, kinds := [], alts := [], laidByText := true, laidKinds := [.data, .pinned, .pinned], laidTests := true, laidLooks := .later }
def HeadBackUptoCardSaid : Prop := Claim7.holds Tryd.pinned (.plain (OpenSpec.upto headBackSpec)) headBackUptoCard
end Rows
end Go.Proofs.YtmjfhhladicacaaDoor
