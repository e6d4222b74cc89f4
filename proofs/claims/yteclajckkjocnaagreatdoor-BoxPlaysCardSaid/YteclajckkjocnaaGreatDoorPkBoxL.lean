/- The statements' closures for Expunge: which letters they hold of. Condition: none. -/
import Derived.Test.YteclajckkjocnaaGreatDoorPkFlagG
import Derived.Test.YteclajckkjocnaaGreatDoorPkPFollow
import Derived.Test.YteclajckkjocnaaGreatDoorPkBoxAF
namespace Go.Proofs.YteclajckkjocnaaGreatDoor
open Go.RowKit Go.Shelf Go.Sort
set_option linter.unusedSimpArgs false
theorem int_info : (Tryz.prog.info? 3).map (fun i => (i.zero, i.size, i.bytes)) = some (some (.int .i64 0), 1, 8) := by kernel_rfl
end Go.Proofs.YteclajckkjocnaaGreatDoor
