/- The walk over letterboxkeep.headed, and what Fields and Only return in the words that the statements meet. Condition: bytealg.MaxLen lies. -/
import Derived.Test.YtmjfhhladicacaaGreatDoorHeadF
namespace Go.Proofs.YtmjfhhladicacaaGreatDoor
open Go.RowKit Go.Shelf

theorem fields_ok (S : List UInt8) (l : List Fld) (w : World) (h : fieldsL S = .inr l) (hs : S.length ≤ 9000) (hM : MaxL w) :
    Calls Tryz.prog 43 #[.string ⟨S.toArray⟩] w fun e w' => ∃ ao cap, e = .returned (.tuple #[.slice ao l.length cap, .nilIface]) ∧ FldRow w' (.slice ao l.length cap) l ∧ Lens l ∧ Below w.heap.size w w' := by
  refine (fields_any S w hs hM).mono ?_
  rw [h]
  rintro e w' ⟨v, rfl, ⟨ao, cap, rfl, h1, h2⟩, h3⟩
  exact ⟨ao, cap, rfl, h1, h2, h3⟩
theorem fields_err (S : List UInt8) (x : Nat × Nat) (w : World) (h : fieldsL S = .inl x) (hs : S.length ≤ 9000) (hM : MaxL w) :
    Calls Tryz.prog 43 #[.string ⟨S.toArray⟩] w fun e w' => ∃ g, e = .returned (.tuple #[.slice none 0 0, .iface 90 (.pointer (some ⟨g, 0, none⟩))]) ∧ w.heap.size ≤ g ∧ w'.heap[g]? = some (.cells #[.int .i64 (x.1 : Int), .int .i64 (x.2 : Int)] 92 (0, 0)) ∧ Below w.heap.size w w' := by
  refine (fields_any S w hs hM).mono ?_
  rw [h]
  rintro e w' ⟨v, rfl, ⟨g, rfl, h1, h2⟩, h3⟩
  exact ⟨g, rfl, h1, h2, h3⟩
theorem rowAt_new (W : World) (x : Value) (t : TypeId) : RowAt (W.alloc (.cells #[x] t)) (.slice (some ⟨W.heap.size, 0, none⟩) 1 1) [x] :=
  Or.inr ⟨W.heap.size, 0, 1, rfl, by simp, fun j u hj => by
    match j, hj with
    | 0, hj => simp at hj; subst hj; simp⟩
theorem row_first {W : World} {ao : Option Addr} {cap : Nat} {f : Fld} {l : List Fld} (h : FldRow W (.slice ao (f :: l).length cap) (f :: l)) : ∃ b off, ao = some ⟨b, off, none⟩ ∧ b < W.heap.size ∧ W.cell? ⟨b, off, none⟩ = some (.string ⟨f.1.toArray⟩) ∧ W.cell? ⟨b, off + 1, none⟩ = some (.string ⟨f.2.toArray⟩) := by
  rcases h with ⟨h, _⟩ | ⟨b, off, cap', h, hlt, hc⟩
  · cases h
  · simp only [Value.slice.injEq] at h
    obtain ⟨rfl, _, _⟩ := h
    have := hc 0 f rfl
    simp only [Nat.zero_mul, Nat.add_zero] at this
    exact ⟨b, off, rfl, hlt, this.1, this.2⟩

def headedS : List UInt8 := [65, 58, 32, 98, 13, 10, 32, 99, 13, 10, 68, 58, 101, 13, 10, 13, 10, 120]
theorem headed_law : fieldsL headedS = .inr [([65], [98, 32, 99]), ([68], [101])] := by decide +kernel

end Go.Proofs.YtmjfhhladicacaaGreatDoor
