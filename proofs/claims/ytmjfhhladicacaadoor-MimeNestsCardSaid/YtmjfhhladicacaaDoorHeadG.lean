/- The walk over letterboxkeep.headed, and what Fields and Only return in the words that the statements meet. Condition: bytealg.MaxLen lies. -/
import Derived.Test.YtmjfhhladicacaaDoorHeadF
namespace Go.Proofs.YtmjfhhladicacaaDoor
open Go.RowKit Go.Shelf

theorem fields_ok (S : List UInt8) (l : List Fld) (w : World) (h : fieldsL S = .inr l) (hs : S.length ≤ 9000) (hM : MaxL w) :
    Calls Tryd.prog 8 #[.string ⟨S.toArray⟩] w fun e w' => ∃ ao cap, e = .returned (.tuple #[.slice ao l.length cap, .nilIface]) ∧ FldRow w' (.slice ao l.length cap) l ∧ Lens l ∧ Below w.heap.size w w' := by
  refine (fields_any S w hs hM).mono ?_
  rw [h]
  rintro e w' ⟨v, rfl, ⟨ao, cap, rfl, h1, h2⟩, h3⟩
  exact ⟨ao, cap, rfl, h1, h2, h3⟩
theorem fields_err (S : List UInt8) (x : Nat × Nat) (w : World) (h : fieldsL S = .inl x) (hs : S.length ≤ 9000) (hM : MaxL w) :
    Calls Tryd.prog 8 #[.string ⟨S.toArray⟩] w fun e w' => ∃ g, e = .returned (.tuple #[.slice none 0 0, .iface 61 (.pointer (some ⟨g, 0, none⟩))]) ∧ w.heap.size ≤ g ∧ w'.heap[g]? = some (.cells #[.int .i64 (x.1 : Int), .int .i64 (x.2 : Int)] 62 (0, 0)) ∧ Below w.heap.size w w' := by
  refine (fields_any S w hs hM).mono ?_
  rw [h]
  rintro e w' ⟨v, rfl, ⟨g, rfl, h1, h2⟩, h3⟩
  exact ⟨g, rfl, h1, h2, h3⟩
theorem rowAt_new (W : World) (x : Value) (t : TypeId) : RowAt (W.alloc (.cells #[x] t)) (.slice (some ⟨W.heap.size, 0, none⟩) 1 1) [x] :=
  Or.inr ⟨W.heap.size, 0, 1, rfl, by simp, fun j u hj => by
    match j, hj with
    | 0, hj => simp at hj; subst hj; simp⟩
theorem only_one (v : Value) (l : List Fld) (n : List UInt8) (W : World) (hv : FldRow W v l) (hl : Lens l) (hn : n.length ≤ 1000000) :
    Calls Tryd.prog 12 #[v, .slice (some ⟨W.heap.size, 0, none⟩) 1 1] (W.alloc (.cells #[.string ⟨n.toArray⟩] 9)) fun e w' => ∃ ao cap, e = .returned (.slice ao (onlyF l [n]).length cap) ∧ FldRow w' (.slice ao (onlyF l [n]).length cap) (onlyF l [n]) ∧ Below W.heap.size W w' := by
  have hA := (Below.refl W.heap.size W).alloc (Nat.le_refl _) (.cells #[.string ⟨n.toArray⟩] 9)
  refine (only_any v _ l [n] _ (hv.below hA) hl (rowAt_new W _ _) ⟨by simp, by intro m hm; simp at hm; rw [hm]; exact hn⟩).mono ?_
  rintro e w' ⟨r, rfl, h1, ⟨ao, cap, rfl⟩, h2⟩
  exact ⟨ao, cap, rfl, h1, hA.trans (h2.mono hA.size)⟩
theorem row_first {W : World} {ao : Option Addr} {cap : Nat} {f : Fld} {l : List Fld} (h : FldRow W (.slice ao (f :: l).length cap) (f :: l)) : ∃ b off, ao = some ⟨b, off, none⟩ ∧ b < W.heap.size ∧ W.cell? ⟨b, off, none⟩ = some (.string ⟨f.1.toArray⟩) ∧ W.cell? ⟨b, off + 1, none⟩ = some (.string ⟨f.2.toArray⟩) := by
  rcases h with ⟨h, _⟩ | ⟨b, off, cap', h, hlt, hc⟩
  · cases h
  · simp only [Value.slice.injEq] at h
    obtain ⟨rfl, _, _⟩ := h
    have := hc 0 f rfl
    simp only [Nat.zero_mul, Nat.add_zero] at this
    exact ⟨b, off, rfl, hlt, this.1, this.2⟩

def headedS : List UInt8 := [65, 58, 32, 98, 13, 10, 32, 99, 13, 10, 68, 58, 101, 13, 10, 13, 10, 120]
theorem headed_law : fieldsL headedS = .inr [([65], [98, 32, 99]), ([68], [101])] := by decide +kernel

set_option maxRecDepth 100000 in
set_option maxHeartbeats 2000000 in
theorem headed_any (w : World) (hM : MaxL w) :
    Calls Tryd.prog 7 #[] w fun e w' => e = .returned (.bool true) ∧ Below w.heap.size w w' := by
  have cF : Calls Tryd.prog 8 #[.string ⟨headedS.toArray⟩] w fun e w' => ∃ b off cap, e = .returned (.tuple #[.slice (some ⟨b, off, none⟩) 2 cap, .nilIface]) ∧ w'.cell? ⟨b, off + 1, none⟩ = some (.string ⟨#[98, 32, 99]⟩) ∧ w'.cell? ⟨b, off + 2, none⟩ = some (.string ⟨#[68]⟩) ∧ w'.cell? ⟨b, off + 2 + 1, none⟩ = some (.string ⟨#[101]⟩) ∧ Below w.heap.size w w' := by
    refine (fields_ok headedS _ w headed_law (by decide) hM).mono ?_
    rintro e w' ⟨ao, cap, rfl, hrow, _, hb⟩
    rcases hrow with ⟨h, _⟩ | ⟨b, off, cap', h, hlt, hc⟩
    · cases h
    · simp only [Value.slice.injEq] at h
      obtain ⟨rfl, _, _⟩ := h
      have h0 := hc 0 _ rfl
      have h1 := hc 1 _ rfl
      exact ⟨b, off, cap, rfl, h0.2, h1.1, h1.2, hb⟩
  unfold headedS at cF
  go_enter Tryd.func7, Tryd.ntmps7
  go_wp2_with (go_at_call 8; refine cF.mono ?_; rintro e w1 ⟨b, off, cap, rfl, c1, c2, c3, hb1⟩)
  go_ret
  exact ⟨rfl, hb1⟩
end Go.Proofs.YtmjfhhladicacaaDoor
