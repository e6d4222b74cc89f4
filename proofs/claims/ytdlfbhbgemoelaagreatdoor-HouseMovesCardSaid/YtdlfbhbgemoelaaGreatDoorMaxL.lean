/- bytealg.MaxLen as the program's text lays it; strings.Cut at one letter. No condition beyond those each names. -/
import Derived.Test.YtdlfbhbgemoelaaGreatDoorRows
import Derived.Test.YtdlfbhbgemoelaaGreatDoorShelf
import Derived.Test.YtdlfbhbgemoelaaGreatDoorKit2
import Derived.Test.YtdlfbhbgemoelaaGreatDoorText
import Derived.Lib.CutLaws
namespace Go.Proofs.YtdlfbhbgemoelaaGreatDoor
open Go.RowKit Go.Shelf

def MaxL (w : World) : Prop := ∃ m, w.cell? ⟨0, 0, none⟩ = some (.int .i64 m)
theorem MaxL.below {w w' : World} (h : MaxL w) (hb : Below w.heap.size w w') : MaxL w' := by
  obtain ⟨m, hm⟩ := h
  refine ⟨m, (hb.cell (p := ⟨_, 0, none⟩) ?_).trans hm⟩
  rcases Nat.lt_or_ge 0 w.heap.size with h' | h'
  · exact h'
  · simp [World.cell?, Array.getElem?_eq_none h'] at hm

theorem cut_l (l : List UInt8) (c : UInt8) (W : World) (hs : l.length ≤ 1000000000) (hM : MaxL W) :
    Calls Tryz.prog 30 #[.string ⟨l.toArray⟩, .string ⟨#[c]⟩] W fun e w' => e = .returned (.tuple #[.string ⟨(Lib.cut l [c]).1.toArray⟩, .string ⟨(Lib.cut l [c]).2.1.toArray⟩, .bool (Lib.cut l [c]).2.2]) ∧ Below W.heap.size W w' := by
  obtain ⟨m, hm⟩ := hM
  refine (Tryz.strings_Cut ⟨l.toArray⟩ ⟨#[c]⟩ m W (by rw [text_size]; omega) hm).mono ?_
  rintro e w' ⟨h1, n, rfl⟩
  exact ⟨h1, ⟨rfl, rfl, rfl, Nat.le_refl _, fun _ _ => rfl⟩⟩
end Go.Proofs.YtdlfbhbgemoelaaGreatDoor
