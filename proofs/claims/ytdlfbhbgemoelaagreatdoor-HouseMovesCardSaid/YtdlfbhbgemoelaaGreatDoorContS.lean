/- slices.Contains at a row of texts. No condition beyond those each names. -/
import Derived.Test.YtdlfbhbgemoelaaGreatDoorSRow
import Derived.Test.YtdlfbhbgemoelaaGreatDoorBytes
namespace Go.Proofs.YtdlfbhbgemoelaaGreatDoor
open Go.RowKit Go.Shelf Go.Sort

theorem map_getD (l : List (List UInt8)) {j : Nat} {t : List UInt8} (h : l[j]? = some t) : (l.map fun t => (⟨t.toArray⟩ : ByteArray)).getD j ByteArray.empty = ⟨t.toArray⟩ := by
  rw [List.getD, List.getElem?_map, h]; rfl
theorem contains_map (l : List (List UInt8)) (t : List UInt8) : Lib.containsS (l.map fun t => (⟨t.toArray⟩ : ByteArray)) ⟨t.toArray⟩ = decide (t ∈ l) := by
  rw [Bool.eq_iff_iff, Lib.containsS_iff, decide_eq_true_eq, List.mem_map]
  constructor
  · rintro ⟨x, hx, e⟩
    have e2 := congrArg (fun x : ByteArray => x.data.toList) e
    simp only [List.toList_toArray] at e2
    rw [← e2]; exact hx
  · intro h
    exact ⟨t, h, rfl⟩
theorem contains_any (v : Value) (l : List (List UInt8)) (t : List UInt8) (w : World) (hv : SRow w v l) (hl : l.length ≤ 1000000) :
    Calls Tryz.prog 64 #[v, .string ⟨t.toArray⟩] w fun e w' => e = .returned (.bool (decide (t ∈ l))) ∧ w = w' := by
  obtain ⟨ao, cap, rfl, hcap, _, hcell⟩ := hv
  cases l with
  | nil => exact (Tryz.slices_Contains_string_empty ao cap ⟨t.toArray⟩ w).mono (by rintro e w' ⟨rfl, rfl⟩; exact ⟨rfl, rfl⟩)
  | cons x r =>
    obtain ⟨b, off, rfl, _, _⟩ := hcell 0 x rfl
    have h := Tryz.slices_Contains_string b off (x :: r).length cap ((x :: r).map fun t => ⟨t.toArray⟩) ⟨t.toArray⟩ w (by simp) (by omega) (fun j hj => by
      obtain ⟨u, hu⟩ : ∃ u, (x :: r)[j]? = some u := ⟨(x :: r)[j]'(by simpa using hj), List.getElem?_eq_getElem _⟩
      obtain ⟨b', off', e1, _, e3⟩ := hcell j u hu
      cases e1
      rw [e3, map_getD _ hu])
    refine h.mono ?_
    rw [List.take_of_length_le (by simp), contains_map]
    rintro e w' ⟨rfl, rfl⟩
    exact ⟨rfl, rfl⟩

end Go.Proofs.YtdlfbhbgemoelaaGreatDoor
