/- A pattern's table, reckoned row by row: it says what Mat says. No program in sight; no condition beyond those each names. -/
import Derived.Test.YtnhcccakgkoggaaGreatDoorPMatch
namespace Go.Proofs.YtnhcccakgkoggaaGreatDoor

/-- the next row's first letters -/
def nextTo (s : List UInt8) (c : UInt8) (l : List Bool) : Nat → List Bool
  | 0 => []
  | k + 1 => nextTo s c l k ++ [cellF [] s c l (nextTo s c l k) k]
theorem nextTo_len (s : List UInt8) (c : UInt8) (l : List Bool) : ∀ k, (nextTo s c l k).length = k
  | 0 => rfl
  | k + 1 => by rw [nextTo, List.length_append, nextTo_len s c l k]; rfl
def rowN (s : List UInt8) (l : List Bool) (c : UInt8) : List Bool := nextTo s c l (s.length + 1)
def rowsF (s p : List UInt8) : List Bool := p.foldl (rowN s) (true :: List.replicate s.length false)
theorem rowsF_snoc (s p : List UInt8) (c : UInt8) : rowsF s (p ++ [c]) = rowN s (rowsF s p) c := by unfold rowsF; rw [List.foldl_append]; rfl
theorem rowsF_len (s : List UInt8) (p : List UInt8) : (rowsF s p).length = s.length + 1 := by
  rcases List.eq_nil_or_concat p with rfl | ⟨q, c, h⟩
  · simp [rowsF]
  · rw [h, List.concat_eq_append, rowsF_snoc]; exact nextTo_len _ _ _ _
theorem nextTo_at {s : List UInt8} {c : UInt8} {l : List Bool} {j : Nat} : ∀ {k : Nat}, j < k → (nextTo s c l k)[j]? = some (cellF [] s c l (nextTo s c l j) j)
  | 0, h => absurd h (Nat.not_lt_zero _)
  | k + 1, h => by
    rw [nextTo]
    by_cases e : j = k
    · subst e
      rw [List.getElem?_append_right (by rw [nextTo_len]; exact Nat.le_refl _), nextTo_len, Nat.sub_self]; rfl
    · rw [List.getElem?_append_left (by rw [nextTo_len]; omega)]
      exact nextTo_at (by omega)
theorem row_next {s p : List UInt8} {c : UInt8} {l : List Bool} (h : RowOf p s l) : RowOf (p ++ [c]) s (rowN s l c) := by
  refine ⟨nextTo_len _ _ _ _, ?_⟩
  have key : ∀ k, k ≤ s.length → ∀ j, j ≤ k → ((rowN s l c)[j]? = some true ↔ Mat (p ++ [c]) (s.take j)) := by
    intro k
    induction k with
    | zero =>
      intro hk j hj
      obtain rfl : j = 0 := by omega
      unfold rowN
      rw [nextTo_at (by omega), Option.some.injEq]
      exact cell_right (p := p) (n := nextTo s c l 0) h (Nat.zero_le _) (fun j hj => absurd hj (Nat.not_lt_zero _))
    | succ k ih =>
      intro hk j hj
      by_cases e : j = k + 1
      · subst e
        unfold rowN
        rw [nextTo_at (by omega), Option.some.injEq]
        refine cell_right (p := p) h hk fun i hi => ?_
        have := ih (by omega) i (by omega)
        unfold rowN at this
        rw [nextTo_at (by omega)] at this ⊢
        exact this
      · exact ih (by omega) j (by omega)
  exact fun k hk => key k hk k (Nat.le_refl _)
theorem rows_right (s p : List UInt8) : RowOf p s (rowsF s p) := by
  induction hn : p.length generalizing p with
  | zero =>
    obtain rfl : p = [] := List.eq_nil_of_length_eq_zero hn
    exact row_first s
  | succ n ih =>
    rcases List.eq_nil_or_concat p with rfl | ⟨q, c, h⟩
    · simp at hn
    · rw [List.concat_eq_append] at h
      subst h
      rw [rowsF_snoc]
      exact row_next (ih q (by simpa using hn))
/-- is a name as a pattern asks? -/
def matB (p s : List UInt8) : Bool := (rowsF s p).getD s.length false
theorem matB_iff (p s : List UInt8) : matB p s = true ↔ Mat p s := by
  unfold matB
  rw [getD_true, row_last (rows_right s p)]
end Go.Proofs.YtnhcccakgkoggaaGreatDoor
