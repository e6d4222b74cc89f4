/- Rows of texts: a slice whose cells hold texts (SRow), in a block of texts (TRow). No condition beyond those each names. -/
import Derived.Test.YtdlfbhbgemoelaaGreatDoorRows
import Derived.Test.YtdlfbhbgemoelaaGreatDoorShelf
import Derived.Test.YtdlfbhbgemoelaaGreatDoorText
import Derived.OwnWalk
import Derived.Sort.OwnSorted
import Derived.Deep.AppendLies
import Derived.Lib.RowBridge
import Derived.Laws.AppendOwnNone
namespace Go.Proofs.YtdlfbhbgemoelaaGreatDoor
open Go.RowKit Go.Shelf Go.Sort

/-- a slice of texts -/
def SRow (w : World) (v : Value) (l : List (List UInt8)) : Prop := ∃ ao cap, v = .slice ao l.length cap ∧ l.length ≤ cap ∧ (cap ≤ 9223372036854775807 ∧ (ao = none → cap = 0)) ∧ ∀ (j : Nat) (t : List UInt8), l[j]? = some t → ∃ b off, ao = some ⟨b, off, none⟩ ∧ b < w.heap.size ∧ w.cell? ⟨b, off + j, none⟩ = some (.string ⟨t.toArray⟩)
theorem SRow.below {w w' : World} {v : Value} {l : List (List UInt8)} (h : SRow w v l) (hb : Below w.heap.size w w') : SRow w' v l := by
  obtain ⟨ao, cap, h1, h2, h3, h4⟩ := h
  refine ⟨ao, cap, h1, h2, h3, fun j t hj => ?_⟩
  obtain ⟨b, off, e1, e2, e3⟩ := h4 j t hj
  exact ⟨b, off, e1, Nat.lt_of_lt_of_le e2 hb.size, (hb.cell (p := ⟨b, off + j, none⟩) e2).trans e3⟩
theorem SRow.nil (w : World) : SRow w (.slice none 0 0) [] := ⟨none, 0, rfl, Nat.le_refl _, ⟨by decide, fun _ => rfl⟩, fun j t h => by simp at h⟩
/-- the row's block holds strings, as its kind says -/
def STag (w : World) (v : Value) : Prop := ∀ a n c, v = .slice (some a) n c → ∃ cur fz, w.heap[a.block]? = some (.cells cur 9 fz)
theorem STag.below {w w' : World} {v : Value} (h : STag w v) (hb : Below w.heap.size w w') : STag w' v := fun a n c e => by
  obtain ⟨cur, fz, hh⟩ := h a n c e
  exact ⟨cur, fz, (hb.block _ (Array.getElem?_eq_some_iff.1 hh).1).trans hh⟩
theorem stag_owns {w : World} {B n : Nat} {v : Value} {xs : List Value} (h : w.ownsRow B 9 1 v n xs) : STag w v := fun a n' c e => by
  rcases h.2 with ⟨rfl, _⟩ | ⟨g, cap, cur, rfl, _, hh, _⟩
  · cases e
  · cases e; exact ⟨cur, _, hh⟩
theorem stag_cut {w : World} {a : Option Addr} {n c n' c' : Nat} (h : STag w (.slice a n c)) : STag w (.slice a n' c') := fun a' _ _ e => by
  cases e
  exact h a' _ _ rfl
/-- a slice of texts in a block of texts -/
def TRow (w : World) (v : Value) (l : List (List UInt8)) : Prop := SRow w v l ∧ STag w v
theorem TRow.below {w w' : World} {v : Value} {l : List (List UInt8)} (h : TRow w v l) (hb : Below w.heap.size w w') : TRow w' v l := ⟨h.1.below hb, h.2.below hb⟩
theorem TRow.row {w : World} {v : Value} {l : List (List UInt8)} (h : TRow w v l) : SRow w v l := h.1
theorem TRow.nil (w : World) : TRow w (.slice none 0 0) [] := ⟨SRow.nil w, fun _ _ _ e => by cases e⟩
theorem str_info : (Tryz.prog.info? 9).map (fun i => (i.zero, i.size, i.bytes)) = some (some (.string ByteArray.empty), 1, 16) := by kernel_rfl
end Go.Proofs.YtdlfbhbgemoelaaGreatDoor
