/- What texts says, plainly. No condition. The walks over the statements' words on flags: texts, flagged, pick, slices.Equal of equal rows. Conditions: flags.system lies as the program's text lays it. -/
import Derived.Test.YteclajckkjocnaaGreatDoorPkBytes
import Derived.Test.YteclajckkjocnaaGreatDoorPkContS
import Derived.Test.YteclajckkjocnaaGreatDoorPkFlagF
namespace Go.Proofs.YteclajckkjocnaaGreatDoor
set_option linter.unusedSimpArgs false
/-- texts are short enough to be held -/
def textsF (l : List (List UInt8)) : Bool := decide (l.length ≤ 40) && l.all fun t => decide (t.length ≤ 100)
end Go.Proofs.YteclajckkjocnaaGreatDoor
namespace Go.Proofs.YteclajckkjocnaaGreatDoor
open Go.RowKit Go.Shelf Go.Sort
set_option linter.unusedSimpArgs false
theorem texts_short {l : List (List UInt8)} (h : textsF l = true) : Short l ∧ l.length ≤ 40 := by
  unfold textsF at h
  rw [Bool.and_eq_true, decide_eq_true_eq, List.all_eq_true] at h
  exact ⟨⟨by omega, fun t ht => by have := h.2 t ht; rw [decide_eq_true_eq] at this; omega⟩, h.1⟩
end Go.Proofs.YteclajckkjocnaaGreatDoor
