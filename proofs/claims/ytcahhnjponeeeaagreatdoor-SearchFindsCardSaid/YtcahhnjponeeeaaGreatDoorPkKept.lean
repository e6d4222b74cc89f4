/- Worlds in which all blocks but some stay as they were; blocks of three cells. No condition beyond those each names. -/
import Derived.Test.YtcahhnjponeeeaaGreatDoorPkShelf
import Derived.Test.YtcahhnjponeeeaaGreatDoorPkText
namespace Go.Proofs.YtcahhnjponeeeaaGreatDoor
open Go.RowKit Go.Shelf Go.Sort
/-- all blocks but some are as they were -/
structure Kept (S : Nat → Prop) (w w' : World) : Prop where
  os : w'.os = w.os
  tape : w'.tape = w.tape
  output : w'.output = w.output
  size : w.heap.size ≤ w'.heap.size
  block : ∀ k, k < w.heap.size → ¬ S k → w'.heap[k]? = w.heap[k]?
theorem Kept.refl (S : Nat → Prop) (w : World) : Kept S w w := ⟨rfl, rfl, rfl, Nat.le_refl _, fun _ _ _ => rfl⟩
theorem Kept.trans {S : Nat → Prop} {a b c : World} (h : Kept S a b) (k : Kept S b c) : Kept S a c := ⟨k.os.trans h.os, k.tape.trans h.tape, k.output.trans h.output, Nat.le_trans h.size k.size, fun i hi hs => (k.block i (Nat.lt_of_lt_of_le hi h.size) hs).trans (h.block i hi hs)⟩
theorem Kept.mono {S T : Nat → Prop} {a b : World} (h : Kept S a b) (hST : ∀ k, k < a.heap.size → S k → T k) : Kept T a b := ⟨h.os, h.tape, h.output, h.size, fun i hi hs => h.block i hi (fun e => hs (hST i hi e))⟩
theorem Kept.next {T : Nat → Prop} {w w1 w2 : World} (h : Kept T w w1) (hb : Below w.heap.size w1 w2) : Kept T w w2 := ⟨hb.os.trans h.os, hb.tape.trans h.tape, hb.output.trans h.output, Nat.le_trans h.size hb.size, fun k hk hs => (hb.block k hk).trans (h.block k hk hs)⟩
theorem kept_below {S : Nat → Prop} {w w' : World} (h : Below w.heap.size w w') : Kept S w w' := ⟨h.os, h.tape, h.output, h.size, fun k hk _ => h.block k hk⟩
theorem Kept.set {S : Nat → Prop} {w w' : World} (h : Kept S w w') {p : Addr} (hp : p.block < w.heap.size → S p.block) (u : Value) : Kept S w (w'.setCell p u) := ⟨h.os, h.tape, h.output, by rw [set_size]; exact h.size, fun k hk hs => (Below.heap_setCell w' p u k (fun e => hs (e ▸ hp (e ▸ hk)))).trans (h.block k hk hs)⟩
theorem Kept.setB {B i : Nat} {w w' : World} (h : Kept (fun k => k = B) w w') (u : Value) : Kept (fun k => k = B) w (w'.setCell ⟨B, i, none⟩ u) := h.set (fun _ => rfl) u
theorem Kept.setNew {S : Nat → Prop} {w w' : World} (h : Kept S w w') {p : Addr} (hp : w.heap.size ≤ p.block) (u : Value) : Kept S w (w'.setCell p u) := h.set (fun h => absurd h (by omega)) u
theorem Kept.alloc {S : Nat → Prop} {w w' : World} (h : Kept S w w') (o : Obj) : Kept S w (w'.alloc o) := ⟨h.os, h.tape, h.output, by rw [alloc_size]; exact Nat.le_succ_of_le h.size, fun k hk hs => (Below.heap_alloc w' o k (Nat.lt_of_lt_of_le hk h.size)).trans (h.block k hk hs)⟩
theorem Kept.below {S : Nat → Prop} {N : Nat} {w w' : World} (h : Kept S w w') (hN : N ≤ w.heap.size) (hS : ∀ k, S k → N ≤ k) : Below N w w' := ⟨h.os, h.tape, h.output, h.size, fun k hk => h.block k (Nat.lt_of_lt_of_le hk hN) (fun e => by have := hS k e; omega)⟩
theorem Kept.obj {S : Nat → Prop} {w w' : World} (h : Kept S w w') {k : Nat} {o : Obj} (hk : w.heap[k]? = some o) (hs : ¬ S k) : w'.heap[k]? = some o := (h.block k (Array.getElem?_eq_some_iff.1 hk).1 hs).trans hk
theorem three_cells {w : World} {U : Nat} {a b c : Value} {t : TypeId} {fz : Nat × Nat} (h : w.heap[U]? = some (.cells #[a, b, c] t fz)) : w.cell? ⟨U, 0, none⟩ = some a ∧ w.cell? ⟨U, 1, none⟩ = some b ∧ w.cell? ⟨U, 2, none⟩ = some c :=
  ⟨by rw [Lib.cell_of_heap h]; rfl, by rw [Lib.cell_of_heap h]; rfl, by rw [Lib.cell_of_heap h]; rfl⟩
theorem set3_1 {w : World} {U : Nat} {a b c u : Value} {t : TypeId} (h : w.heap[U]? = some (.cells #[a, b, c] t (0, 0))) : (w.setCell ⟨U, 1, none⟩ u).heap[U]? = some (.cells #[a, u, c] t (0, 0)) := by
  simp only [World.setCell, Array.getElem?_modify, if_pos, h]
  simp
theorem set3_2 {w : World} {U : Nat} {a b c u : Value} {t : TypeId} (h : w.heap[U]? = some (.cells #[a, b, c] t (0, 0))) : (w.setCell ⟨U, 2, none⟩ u).heap[U]? = some (.cells #[a, b, u] t (0, 0)) := by
  simp only [World.setCell, Array.getElem?_modify, if_pos, h]
  simp
end Go.Proofs.YtcahhnjponeeeaaGreatDoor
