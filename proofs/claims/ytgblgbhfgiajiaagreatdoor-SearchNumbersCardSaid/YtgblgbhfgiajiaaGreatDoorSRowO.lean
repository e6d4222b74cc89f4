/- A row of texts that is owned reads as a list of texts. No condition beyond those it names. -/
import Derived.Test.YtgblgbhfgiajiaaGreatDoorSRow
namespace Go.Proofs.YtgblgbhfgiajiaaGreatDoor
open Go.RowKit Go.Shelf

theorem srow_own {W : World} {base : Nat} {v : Value} {l : List (List UInt8)} (h : W.ownsRow base 9 1 v l.length (l.map encStr)) : SRow W v l := by
  have h0 := h
  rcases h.2 with ⟨rfl, h1⟩ | ⟨g, cap, cur, rfl, a1, a2, a3, a4, _⟩
  · exact ⟨none, 0, by rw [h1], by omega, ⟨by decide, fun _ => rfl⟩, fun j t hj => by rw [List.length_eq_zero_iff.1 h1] at hj; simp at hj⟩
  · refine ⟨some ⟨g, 0, none⟩, cap, rfl, a3, ⟨by unfold maxLen at a4; omega, fun e => by cases e⟩, fun j t hj => ?_⟩
    have hl := (List.getElem?_eq_some_iff.1 hj).1
    have k1 := h0.cellAt j (by omega)
    rw [List.getElem?_map, hj] at k1
    exact ⟨g, 0, rfl, (Array.getElem?_eq_some_iff.1 a2).1, by rw [Nat.zero_add]; exact k1⟩
end Go.Proofs.YtgblgbhfgiajiaaGreatDoor
