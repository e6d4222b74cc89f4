/- The walks over a box's Find and what it calls: rows of letters, the search. Condition: none. -/
import Derived.Test.YtdlfbhbgemoelaaGreatDoorPBox
import Derived.Test.YtdlfbhbgemoelaaGreatDoorFlagD
import Derived.Deep.RegionHeld3
namespace Go.Proofs.YtdlfbhbgemoelaaGreatDoor
open Go.RowKit Go.Shelf Go.Sort

/-- a row of letters -/
def LRow (w : World) (v : Value) (l : List Let) : Prop := ∃ ao cap, v = .slice ao l.length cap ∧ l.length ≤ cap ∧ (cap ≤ 9223372036854775807 ∧ (ao = none → cap = 0)) ∧ ∀ (j : Nat) (x : Let), l[j]? = some x → ∃ b off fv, ao = some ⟨b, off, none⟩ ∧ b < w.heap.size ∧ SRow w fv x.flags ∧
  w.cell? ⟨b, off + j * 4, none⟩ = some (.int .i64 x.uid) ∧ w.cell? ⟨b, off + j * 4 + 1, none⟩ = some fv ∧ w.cell? ⟨b, off + j * 4 + 2, none⟩ = some (.int .i64 x.day) ∧ w.cell? ⟨b, off + j * 4 + 3, none⟩ = some (.string ⟨x.text.toArray⟩)
theorem LRow.below {w w' : World} {v : Value} {l : List Let} (h : LRow w v l) (hb : Below w.heap.size w w') : LRow w' v l := by
  obtain ⟨ao, cap, h1, h2, h3, h4⟩ := h
  refine ⟨ao, cap, h1, h2, h3, fun j x hj => ?_⟩
  obtain ⟨b, off, fv, e1, e2, e3, c0, c1, c2, c3⟩ := h4 j x hj
  have hc := fun i => hb.cell (p := ⟨b, i, none⟩) e2
  exact ⟨b, off, fv, e1, Nat.lt_of_lt_of_le e2 hb.size, e3.below hb, (hc _).trans c0, (hc _).trans c1, (hc _).trans c2, (hc _).trans c3⟩
/-- a letter as a value -/
def letV (x : Let) (fv : Value) : Value := .agg #[.int .i64 x.uid, fv, .int .i64 x.day, .string ⟨x.text.toArray⟩]


theorem wrap_zero {u n : Int} (h1 : 1 ≤ u) (h2 : u ≤ 2147483647) (h3 : -9223372036854775808 ≤ n) (h4 : n ≤ 9223372036854775807) (h : wrap64 (u - n) = 0) : u = n := by
  unfold wrap64 at h
  omega
theorem find_at {l : List Let} {k : Nat} {x : Let} {n : Int} (hp : l.Pairwise (fun x y => x.uid < y.uid)) (hx : l[k]? = some x) (hn : x.uid = n) : findB l n = some k := by
  unfold findB
  rw [List.findIdx?_eq_some_iff_getElem]
  obtain ⟨hk, e⟩ := List.getElem?_eq_some_iff.1 hx
  refine ⟨hk, by rw [e]; simpa using hn, fun j hj => ?_⟩
  have := List.pairwise_iff_getElem.1 hp j k (by omega) hk hj
  rw [e] at this
  simp only [decide_eq_true_eq]
  omega

/-- a box lies in a block -/
def BoxAt (w : World) (B : Nat) (b : BoxP) : Prop := ∃ lv, w.heap[B]? = some (.cells #[.int .i64 b.valid, .int .i64 b.next, lv] 48 (0, 0)) ∧ LRow w lv b.ls
/-- a box's letters' numbers rise, and are numbers -/
def Rising (l : List Let) : Prop := (∀ x ∈ l, 1 ≤ x.uid ∧ x.uid ≤ 2147483647) ∧ l.Pairwise fun x y => x.uid < y.uid
theorem rising_of {b : BoxP} (h : rightB b = true) : Rising b.ls := by
  unfold rightB numB maxN at h
  simp only [Bool.and_eq_true, decide_eq_true_eq] at h
  obtain ⟨h1, h2⟩ := rightL_lt h.1.1.1
  refine ⟨fun x hx => ?_, h1⟩
  obtain ⟨k, hk⟩ := List.getElem?_of_mem hx
  have := letOk_iff.1 (rightL_at h.1.1.1 hk)
  omega
end Go.Proofs.YtdlfbhbgemoelaaGreatDoor
