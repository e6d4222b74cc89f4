/- Plain laws: a beginning of bytes is cut as the whole is, as soon as the command is there. No program in sight; no condition beyond those each names. -/
import Derived.Test.YtbfndlmihijcgaaGreatDoorPWire
namespace Go.Proofs.YtbfndlmihijcgaaGreatDoor

theorem occ_take (s sub : List UInt8) (n j : Nat) (h : j + sub.length ≤ n) : Lib.occAt (s.take n) sub j = Lib.occAt s sub j := by
  unfold Lib.occAt
  rw [List.drop_take, Bool.eq_iff_iff, List.isPrefixOf_iff_prefix, List.isPrefixOf_iff_prefix]
  constructor
  · intro h1; exact h1.trans (List.take_prefix _ _)
  · intro h1; exact List.prefix_take_iff.2 ⟨h1, by omega⟩
theorem index_take {s sub : List UInt8} {n k : Nat} (h : Lib.index (s.take n) sub = (k : Int)) : Lib.index s sub = (k : Int) := by
  have hr := Lib.index_room (s.take n) sub (by omega)
  rw [h] at hr
  have hl : (s.take n).length ≤ n := List.length_take_le _ _
  have hl2 : (s.take n).length ≤ s.length := by rw [List.length_take]; omega
  rcases Lib.index_spec (s.take n) sub with ⟨h1, _⟩ | ⟨i, h1, h2, h3, h4⟩
  · omega
  · obtain rfl : i = k := by omega
    refine Lib.index_first (by omega) ?_ fun j hj => ?_
    · rw [← occ_take s sub n i (by omega)]; exact h3
    · rw [← occ_take s sub n j (by omega)]; exact h4 j hj
theorem index_take_none {s sub : List UInt8} {n k : Nat} (h : Lib.index (s.take n) sub < 0) (hk : Lib.index s sub = (k : Int)) : n < k + sub.length := by
  rcases Nat.lt_or_ge n (k + sub.length) with h' | h'
  · exact h'
  · exfalso
    have hr := Lib.index_room s sub (by omega)
    rw [hk] at hr
    rcases Lib.index_spec s sub with ⟨h1, _⟩ | ⟨i, h1, h2, h3, h4⟩
    · omega
    · obtain rfl : i = k := by omega
      rw [← occ_take s sub n i h'] at h3
      rcases Lib.index_spec (s.take n) sub with ⟨_, h5⟩ | ⟨q, h5, _⟩
      · rw [h5 i (by rw [List.length_take]; omega)] at h3; cases h3
      · omega
theorem next_lo (S : List UInt8) : ∀ (f a w : Nat), w ≤ (nextF S f a w).2.1 ∧ ((nextF S f a w).1 = 0 ∨ a < (nextF S f a w).1) := by
  intro f
  induction f with
  | zero => intro a w; exact ⟨Nat.le_refl _, Or.inl rfl⟩
  | succ f ih =>
    intro a w
    rw [nextF]
    split
    · exact ⟨Nat.le_refl _, Or.inl rfl⟩
    · split
      · split
        · exact ⟨Nat.le_refl _, Or.inl rfl⟩
        · exact ⟨Nat.le_refl _, Or.inr (by dsimp only; omega)⟩
      · split
        · exact ⟨Nat.le_refl _, Or.inl rfl⟩
        · split
          · exact ⟨by dsimp only; omega, Or.inl rfl⟩
          · rename_i m _ _ _
            have := ih (a + (Lib.index (List.drop a S) [13, 10]).toNat + 2 + m.toNat) (w + 1)
            exact ⟨by omega, by omega⟩
/-- how the cut of a beginning lies to the cut of the whole -/
def Piece (n : Nat) (R Q : Nat × Nat × Bool) : Prop := (R.2.2 = true → Q.2.2 = true) ∧ (R.2.2 = false → Q.2.2 = false → R.2.1 ≤ Q.2.1 ∧ (R.1 = 0 ∨ R.1 = Q.1 ∧ R.2.1 = Q.2.1) ∧ R.1 ≤ n ∧ (Q.1 = 0 ∨ n < Q.1 ∨ R.1 = Q.1))
theorem next_pieces (S : List UInt8) (n : Nat) (hS : S.length ≤ 3000) (hn : n ≤ S.length) : ∀ (f g a w : Nat), a ≤ n → n + 1 ≤ a + f → S.length + 1 ≤ a + g → Piece n (nextF (S.take n) f a w) (nextF S g a w) := by
  have hTl : (S.take n).length = n := by rw [List.length_take]; omega
  intro f
  induction f with
  | zero => intro g a w ha hf; omega
  | succ f ih =>
    intro g a w ha hf hg
    obtain ⟨g, rfl⟩ : ∃ g', g = g' + 1 := ⟨g - 1, by omega⟩
    have hd : (S.take n).drop a = (S.drop a).take (n - a) := List.drop_take
    have hlo := next_lo S (g + 1) a w
    rcases Lib.index_spec ((S.take n).drop a) [13, 10] with ⟨h1, _⟩ | ⟨k, h1, _⟩
    · rw [next_none (S := S.take n) (by omega), hTl, decide_eq_false (by omega)]
      refine ⟨(fun h => by cases h), fun _ _ => ⟨hlo.1, Or.inl rfl, Nat.zero_le _, ?_⟩⟩
      rw [hd] at h1
      rcases Lib.index_spec (S.drop a) [13, 10] with ⟨h2, _⟩ | ⟨k, h2, _⟩
      · left; rw [next_none (by omega)]
      · have hk := index_take_none (n := n - a) (by rw [h1]; decide) h2
        have hk2 : n - a < k + 2 := hk
        cases hl : litF ((S.drop a).take k) with
        | none =>
          rw [next_end h2 hl]
          split
          · left; rfl
          · right; left; show n < a + k + 2; omega
        | some m =>
          obtain ⟨hm0, _⟩ := lit_neg hl
          obtain ⟨m, rfl⟩ : ∃ m' : Nat, m = (m' : Int) := ⟨m.toNat, by omega⟩
          rw [next_more h2 hl]
          split
          · left; rfl
          · split
            · left; rfl
            · have := (next_lo S g (a + k + 2 + m) (w + 1)).2
              omega
    · have h2 : Lib.index (S.drop a) [13, 10] = (k : Int) := by rw [hd] at h1; exact index_take h1
      have hr := Lib.index_room ((S.take n).drop a) [13, 10] (by omega)
      rw [h1, List.length_drop, hTl] at hr
      have hr2 : (k : Int) + 2 ≤ ((n - a : Nat) : Int) := hr
      have hk : k + 2 ≤ n - a := by omega
      have hline : ((S.take n).drop a).take k = (S.drop a).take k := by rw [hd, List.take_take]; congr 1; omega
      cases hl : litF ((S.drop a).take k) with
      | none =>
        rw [next_end h2 hl, next_end h1 (by rw [hline]; exact hl), if_neg (by omega)]
        exact ⟨(fun h => by cases h), fun _ _ => ⟨Nat.le_refl _, Or.inr ⟨rfl, rfl⟩, by show a + k + 2 ≤ n; omega, Or.inr (Or.inr rfl)⟩⟩
      | some m =>
        obtain ⟨hm0, _⟩ := lit_neg hl
        obtain ⟨m, rfl⟩ : ∃ m' : Nat, m = (m' : Int) := ⟨m.toNat, by omega⟩
        rw [next_more h2 hl, next_more h1 (by rw [hline]; exact hl), hTl]
        by_cases h3 : 3000 < a + k + 2 + m
        · rw [if_pos h3, if_pos h3]
          exact ⟨fun _ => rfl, fun h => by cases h⟩
        · rw [if_neg h3, if_neg h3]
          by_cases h4 : n < a + k + 2 + m
          · rw [if_pos h4]
            by_cases h5 : S.length < a + k + 2 + m
            · rw [if_pos h5]
              exact ⟨(fun h => by cases h), fun _ _ => ⟨Nat.le_refl _, Or.inl rfl, Nat.zero_le _, Or.inl rfl⟩⟩
            · rw [if_neg h5]
              have := next_lo S g (a + k + 2 + m) (w + 1)
              exact ⟨(fun h => by cases h), fun _ _ => ⟨this.1, Or.inl rfl, Nat.zero_le _, by omega⟩⟩
          · rw [if_neg h4, if_neg (by omega)]
            exact ih g _ _ (by omega) (by omega) (by omega)
/-- what is asked of the numbers that Next tells of a beginning, and of the whole -/
def pieceB (n : Nat) (R Q : Nat × Nat × Bool) : Bool := if R.2.2 || Q.2.2 then !R.2.2 || Q.2.2 else decide (R.2.1 ≤ Q.2.1) && (decide (R.1 = 0) || decide (R.1 = Q.1) && decide (R.2.1 = Q.2.1)) && decide (R.1 ≤ n) && (decide (Q.1 = 0) || decide (n < Q.1) || decide (R.1 = Q.1))
theorem piece_all (S : List UInt8) (n : Nat) (hS : S.length ≤ 3000) (hn : n ≤ S.length) : Piece n (nextF (S.take n) ((S.take n).length + 1) 0 0) (nextF S (S.length + 1) 0 0) :=
  next_pieces S n hS hn _ _ 0 0 (Nat.zero_le _) (by rw [List.length_take]; omega) (by omega)
end Go.Proofs.YtbfndlmihijcgaaGreatDoor
