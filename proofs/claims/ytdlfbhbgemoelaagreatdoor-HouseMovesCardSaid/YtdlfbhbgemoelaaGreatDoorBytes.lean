/- A block that holds bytes, as a string's conversion lays it; a row that is mapped place by place. No condition beyond those each names. -/
import Derived.Test.YtdlfbhbgemoelaaGreatDoorRows
import Derived.Test.YtdlfbhbgemoelaaGreatDoorText
import Derived.Lib.ConvBytes
namespace Go.Proofs.YtdlfbhbgemoelaaGreatDoor
open Go.RowKit

/-- a block that holds bytes, as '[]byte(s)' lays it -/
def BytesAt (W : World) (g : Nat) (l : List UInt8) : Prop := ∃ c : Array Value, W.heap[g]? = some (.cells c 5 (c.size, c.size + 1)) ∧ l.length ≤ c.size ∧ ∀ (j : Nat) (x : UInt8), l[j]? = some x → c[j]? = some (Value.int .u8 (x.toNat : Int))
theorem bytesAt_new (w : World) (s : ByteArray) : BytesAt (Lib.bytesWorld w 5 s) w.heap.size s.data.toList := by
  refine ⟨_, Lib.bytesWorld_at_new w _ s, ?_, ?_⟩
  · simp [Lib.bytesCells]
  · intro j x hj
    have hlt : j < s.data.size := by
      have := (List.getElem?_eq_some_iff.1 hj).1
      simpa using this
    unfold Lib.bytesCells
    rw [Array.getElem?_append_left (by simpa using hlt)]
    simp at hj
    simp [hj]
theorem BytesAt.cell {W : World} {g : Nat} {l : List UInt8} (h : BytesAt W g l) {j : Nat} {x : UInt8} (hj : l[j]? = some x) : W.cell? ⟨g, j, none⟩ = some (.int .u8 (x.toNat : Int)) := by
  obtain ⟨c, h1, _, h3⟩ := h
  rw [Lib.cell_of_heap h1]
  exact h3 j x hj
theorem BytesAt.free {W : World} {g : Nat} {l : List UInt8} (h : BytesAt W g l) {j : Nat} (hj : j < l.length) : W.frozen? ⟨g, j, none⟩ = false := by
  obtain ⟨c, h1, h2, _⟩ := h
  simp only [World.frozen?, h1]
  simp; omega
theorem BytesAt.put {W : World} {g : Nat} {l : List UInt8} (h : BytesAt W g l) (j : Nat) (y : UInt8) : BytesAt (W.setCell ⟨g, j, none⟩ (.int .u8 (y.toNat : Int))) g (l.set j y) := by
  obtain ⟨c, h1, h2, h3⟩ := h
  refine ⟨c.setIfInBounds j (.int .u8 (y.toNat : Int)), ?_, ?_, ?_⟩
  · rw [setCell_eq_setRow W g j c _ _ _ h1]
    simpa using setRow_heap W g c _ _ _ h1
  · simpa using h2
  · intro i x hi
    rw [List.getElem?_set] at hi
    rw [Array.getElem?_setIfInBounds]
    split at hi
    · subst j
      rw [if_pos rfl]
      split at hi
      · cases hi; rw [if_pos (by omega)]
      · cases hi
    · rename_i hne
      rw [if_neg hne]
      exact h3 i x hi
theorem BytesAt.row {W : World} {g : Nat} {l : List UInt8} (h : BytesAt W g l) (hlt : g < W.heap.size) (n cap : Nat) (hn : n = l.length) : RowAt W (.slice (some ⟨g, 0, none⟩) n cap) (Lib.byteCells l) := by
  subst hn
  refine Or.inr ⟨g, 0, cap, by rw [Lib.byteCells_length], hlt, ?_⟩
  intro j u hj
  simp [Lib.byteCells] at hj
  obtain ⟨x, hx, rfl⟩ := hj
  rw [Nat.zero_add]
  exact h.cell (by simpa using hx)
theorem bytesWorld_below (w : World) (s : ByteArray) : Below w.heap.size w (Lib.bytesWorld w 5 s) :=
  ⟨rfl, rfl, rfl, by rw [Lib.bytesWorld_size]; omega, fun j hj => Lib.bytesWorld_at_old w _ s j hj⟩

theorem map_step {f : UInt8 → UInt8} {l : List UInt8} {k : Nat} {c : UInt8} (hc : l[k]? = some c) : (l.take (k + 1)).map f ++ l.drop (k + 1) = ((l.take k).map f ++ l.drop k).set k (f c) := by
  have hk : k < l.length := (List.getElem?_eq_some_iff.1 hc).1
  rw [List.take_add_one, hc, List.map_append]
  rw [List.set_append_right _ _ (by simp; omega)]
  simp only [List.length_map, List.length_take, Nat.min_eq_left (Nat.le_of_lt hk), Nat.sub_self, List.append_assoc]
  congr 1
  rw [List.drop_eq_getElem_cons hk, List.set_cons_zero]
  simp
theorem map_same {f : UInt8 → UInt8} {l : List UInt8} {k : Nat} {c : UInt8} (hc : l[k]? = some c) (hf : f c = c) : (l.take (k + 1)).map f ++ l.drop (k + 1) = (l.take k).map f ++ l.drop k := by
  have hk : k < l.length := (List.getElem?_eq_some_iff.1 hc).1
  rw [List.take_add_one, hc, List.map_append, List.drop_eq_getElem_cons hk]
  have : l[k] = c := by rw [List.getElem?_eq_getElem hk] at hc; exact Option.some.inj hc
  simp [hf, this]
theorem map_cell {f : UInt8 → UInt8} {l : List UInt8} {k : Nat} {c : UInt8} (hc : l[k]? = some c) : ((l.take k).map f ++ l.drop k)[k]? = some c := by
  have hk : k < l.length := (List.getElem?_eq_some_iff.1 hc).1
  rw [List.getElem?_append_right (by simp; omega)]
  simp [Nat.min_eq_left (Nat.le_of_lt hk), hc]
end Go.Proofs.YtdlfbhbgemoelaaGreatDoor
