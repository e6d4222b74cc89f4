/- slices.DeleteFunc at a row of texts and house.List's own function, which makes memory. No condition beyond those each names. slices.DeleteFunc at a row of texts and house.List's own function, which makes memory: the whole. No condition beyond those each names. -/
import Derived.Test.YtdlfbhbgemoelaaGreatDoorDelG
import Derived.Test.YtdlfbhbgemoelaaGreatDoorMatch
import Derived.Lib.SliceRun
namespace Go.Proofs.YtdlfbhbgemoelaaGreatDoor
open Go.RowKit Go.Shelf Go.Sort
set_option linter.unusedSimpArgs false

theorem owns_set {w : World} {B g n cap i : Nat} {e : TypeId} {xs : List Value} (h : w.ownsRow B e 1 (.slice (some ⟨g, 0, none⟩) n cap) n xs) (hi : i < n) (u : Value) : (w.setCell ⟨g, i, none⟩ u).ownsRow B e 1 (.slice (some ⟨g, 0, none⟩) n cap) n (xs.set i u) := by
  obtain ⟨h1, h2⟩ := h
  refine ⟨by rw [List.length_set]; exact h1, ?_⟩
  rcases h2 with ⟨h2, _⟩ | ⟨g', cap', cur, hv, hbase, hh, k1, k2, k3, k4⟩
  · cases h2
  · cases hv
    refine Or.inr ⟨g, cap, cur.setIfInBounds i u, rfl, hbase, ?_, k1, k2, by rw [Array.size_setIfInBounds]; exact k3, ?_⟩
    · simp only [World.setCell, Array.getElem?_modify, if_pos, hh]
      rfl
    · rw [Array.toList_setIfInBounds, ← k4, ← List.take_set]
theorem owns_setHigh {w : World} {B g n cap o : Nat} {e : TypeId} {xs : List Value} (h : w.ownsRow B e 1 (.slice (some ⟨g, 0, none⟩) n cap) n xs) (ho : n ≤ o) (u : Value) : (w.setCell ⟨g, o, none⟩ u).ownsRow B e 1 (.slice (some ⟨g, 0, none⟩) n cap) n xs := by
  obtain ⟨h1, h2⟩ := h
  refine ⟨h1, ?_⟩
  rcases h2 with ⟨h2, _⟩ | ⟨g', cap', cur, hv, hbase, hh, k1, k2, k3, k4⟩
  · cases h2
  · cases hv
    refine Or.inr ⟨g, cap, cur.setIfInBounds o u, rfl, hbase, ?_, k1, k2, by rw [Array.size_setIfInBounds]; exact k3, ?_⟩
    · simp only [World.setCell, Array.getElem?_modify, if_pos, hh]
      rfl
    · rw [Array.toList_setIfInBounds, ← k4, List.take_set_of_le (by omega)]
theorem owns_setCells {B g n cap : Nat} {e : TypeId} {xs : List Value} : ∀ (vs : List Value) (o : Nat) (w : World), w.ownsRow B e 1 (.slice (some ⟨g, 0, none⟩) n cap) n xs → n ≤ o → (w.setCells g o vs).ownsRow B e 1 (.slice (some ⟨g, 0, none⟩) n cap) n xs
  | [], _, _, h, _ => h
  | v :: r, o, w, h, ho => owns_setCells r (o + 1) _ (owns_setHigh h ho v) (by omega)
theorem kept_setCells {S : Nat → Prop} {g : Nat} (hg : S g) : ∀ (vs : List Value) (o : Nat) (w0 w : World), Kept S w0 w → Kept S w0 (w.setCells g o vs)
  | [], _, _, _, h => h
  | v :: r, o, w0, w, h => kept_setCells hg r (o + 1) w0 _ (h.set (p := ⟨g, o, none⟩) (fun _ => hg) v)
theorem kept_grownBy {g : Nat} {w w' : World} (h : Kept (fun k => k = g) w w') : w.grownBy w' (some g) := ⟨h.os, h.tape, h.output, h.size, fun k hk hne => h.block k hk (fun e => hne (by rw [e]))⟩
/-- the first that is not kept -/
def IxS (k : List UInt8 → Bool) (a : List (List UInt8)) (w : World) (e : Ending) (w' : World) : Prop :=
  ∃ z : Int, e = .returned (.int .i64 z) ∧ ((z = -1 ∧ a.all k = true) ∨ ∃ (i : Nat) (x : List UInt8), z = (i : Int) ∧ a[i]? = some x ∧ k x = false ∧ (a.take i).all k = true) ∧ Below w.heap.size w w'
theorem all_take_succ {k : List UInt8 → Bool} {a : List (List UInt8)} {i : Nat} {x : List UInt8} (h : a[i]? = some x) (h1 : (a.take i).all k = true) (h2 : k x = true) : (a.take (i + 1)).all k = true := by
  rw [List.take_add_one, h, List.all_append, h1]
  simp [h2]
end Go.Proofs.YtdlfbhbgemoelaaGreatDoor
namespace Go.Proofs.YtdlfbhbgemoelaaGreatDoor
open Go.RowKit Go.Shelf Go.Sort
set_option linter.unusedSimpArgs false

theorem filter_take_yes {k : List UInt8 → Bool} {a : List (List UInt8)} {j : Nat} {x : List UInt8} (h : a[j]? = some x) (h2 : k x = true) : (a.take (j + 1)).filter k = (a.take j).filter k ++ [x] := by
  rw [List.take_add_one, h, List.filter_append]
  simp [h2]
theorem filter_take_no {k : List UInt8 → Bool} {a : List (List UInt8)} {j : Nat} {x : List UInt8} (h : a[j]? = some x) (h2 : k x = false) : (a.take (j + 1)).filter k = (a.take j).filter k := by
  rw [List.take_add_one, h, List.filter_append]
  simp [h2]
theorem set_step {ys F : List (List UInt8)} {i : Nat} {x : List UInt8} (hi : i < ys.length) (h : ys.take i = F) : (ys.set i x).take (i + 1) = F ++ [x] := by
  rw [List.take_add_one, List.getElem?_set_self hi, List.take_set_of_le (Nat.le_refl _), h]
  rfl
end Go.Proofs.YtdlfbhbgemoelaaGreatDoor
