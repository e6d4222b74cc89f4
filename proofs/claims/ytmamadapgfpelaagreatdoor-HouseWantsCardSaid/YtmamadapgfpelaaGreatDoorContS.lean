/- slices.Contains at a row of texts. No condition beyond those each names. -/
import Derived.Test.YtmamadapgfpelaaGreatDoorSRow
import Derived.Test.YtmamadapgfpelaaGreatDoorBytes
namespace Go.Proofs.YtmamadapgfpelaaGreatDoor
open Go.RowKit Go.Shelf Go.Sort

theorem map_getD (l : List (List UInt8)) {j : Nat} {t : List UInt8} (h : l[j]? = some t) : (l.map fun t => (⟨t.toArray⟩ : ByteArray)).getD j ByteArray.empty = ⟨t.toArray⟩ := by
  rw [List.getD, List.getElem?_map, h]; rfl
theorem contains_map (l : List (List UInt8)) (t : List UInt8) : Lib.containsS (l.map fun t => (⟨t.toArray⟩ : ByteArray)) ⟨t.toArray⟩ = decide (t ∈ l) := by
  rw [Bool.eq_iff_iff, Lib.containsS_iff, decide_eq_true_eq, List.mem_map]
  constructor
  · rintro ⟨x, hx, e⟩
    have e2 := congrArg (fun x : ByteArray => x.data.toList) e
    simp only [List.toList_toArray] at e2
    rw [← e2]; exact hx
  · intro h
    exact ⟨t, h, rfl⟩

end Go.Proofs.YtmamadapgfpelaaGreatDoor
