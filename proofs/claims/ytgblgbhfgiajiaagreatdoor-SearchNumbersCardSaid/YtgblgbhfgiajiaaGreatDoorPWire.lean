/- Plain laws for commands as bytes: what a line's end tells to follow, and where a command is cut off. No program in sight; no condition beyond those each names. -/
import Derived.Lib.AtoiAll
import Derived.Lib.ItoaNum
import Derived.Lib.LastIndexByte
import Derived.Lib.IndexMore
import Derived.Lib.Hide
namespace Go.Proofs.YtgblgbhfgiajiaaGreatDoor

theorem w_part (l : List UInt8) (i j : Nat) : (⟨l.toArray⟩ : ByteArray).extract i j = ⟨((l.drop i).take (j - i)).toArray⟩ := by
  apply ByteArray.ext
  simp [List.extract_eq_take_drop]
theorem w_size (l : List UInt8) : (⟨l.toArray⟩ : ByteArray).size = l.length := by simp [ByteArray.size]

/-- a number from 0 on, written without a nought ahead, of at most 2 ^ 62 -/
def numOf (s : List UInt8) (v : Int) : Option Int := if 0 ≤ v ∧ v ≤ 4611686018427387904 ∧ Lib.itoa v = s then some v else none
def numF (s : List UInt8) : Option Int :=
  match Lib.atoiAll s with
  | .ok v => numOf s v
  | _ => none
def innerL (l : List UInt8) (k : Nat) : List UInt8 := (l.drop (k + 1)).take (l.length - 1 - (k + 1))
/-- how many bytes a line's end tells to follow -/
def litF (l : List UInt8) : Option Int :=
  if Lib.lastIndexByte ⟨l.toArray⟩ 123 < 0 then none
  else if l.getLastD 0 ≠ 125 then none
  else numF (innerL l (Lib.lastIndexByte ⟨l.toArray⟩ 123).toNat)
theorem lit_place (l : List UInt8) : Lib.lastIndexByte ⟨l.toArray⟩ 123 = -1 ∨ ∃ i : Nat, Lib.lastIndexByte ⟨l.toArray⟩ 123 = i ∧ i < l.length ∧ (l.getLastD 0 = 125 → i + 1 < l.length) := by
  rcases Lib.lastIndexByte_spec ⟨l.toArray⟩ 123 with ⟨h, _⟩ | ⟨i, h1, h2, h3, _⟩
  · exact Or.inl h
  · rw [w_size] at h1
    refine Or.inr ⟨i, h2, h1, fun hl => ?_⟩
    rcases Nat.lt_or_ge (i + 1) l.length with h | h
    · exact h
    · exfalso
      have hi : i = l.length - 1 := by omega
      have e : l.getLastD 0 = l[i] := by
        rw [List.getLastD_eq_getLast?, List.getLast?_eq_getElem?, ← hi, List.getElem?_eq_getElem h1]; rfl
      have e2 : ((⟨l.toArray⟩ : ByteArray).data[i]!) = l[i] := by
        rw [getElem!_pos (⟨l.toArray⟩ : ByteArray).data i (by simpa using h1)]; rfl
      rw [e2] at h3
      rw [e] at hl
      rw [hl] at h3
      revert h3; decide
theorem lit_neg {l : List UInt8} {v : Int} (h : litF l = some v) : 0 ≤ v ∧ v ≤ 4611686018427387904 := by
  unfold litF at h
  split at h
  · cases h
  · split at h
    · cases h
    · unfold numF at h
      split at h
      · unfold numOf at h
        split at h
        · rename_i hc; cases h; exact ⟨hc.1, hc.2.1⟩
        · cases h
      · cases h
theorem suffix_last {l : List UInt8} (h : l ≠ []) : Lib.hasSuffix l [125] = decide (l.getLastD 0 = 125) := by
  rcases List.eq_nil_or_concat l with h' | ⟨t, x, rfl⟩
  · exact absurd h' h
  · rw [List.concat_eq_append]
    have e : (t ++ [x]).getLastD 0 = x := by rw [List.getLastD_eq_getLast?]; simp
    rw [e]
    unfold Lib.hasSuffix
    by_cases hx : x = 125
    · subst hx
      rw [decide_eq_true rfl, List.isSuffixOf_iff_suffix]
      exact ⟨t, rfl⟩
    · rw [decide_eq_false hx, Bool.eq_false_iff]
      intro h2
      rw [List.isSuffixOf_iff_suffix] at h2
      obtain ⟨u, hu⟩ := h2
      have := congrArg List.getLast? hu
      simp at this
      exact hx this.symm

/-- where a command is cut off: its bytes, how often more is waited for, and whether it is too long -/
def nextF (S : List UInt8) : Nat → Nat → Nat → Nat × Nat × Bool
  | 0, _, w => (0, w, false)
  | f + 1, a, w =>
    if Lib.index (S.drop a) [13, 10] < 0 then (0, w, decide (3000 < S.length))
    else match litF ((S.drop a).take (Lib.index (S.drop a) [13, 10]).toNat) with
      | none => if 3000 < a + (Lib.index (S.drop a) [13, 10]).toNat + 2 then (0, w, true) else (a + (Lib.index (S.drop a) [13, 10]).toNat + 2, w, false)
      | some m => if 3000 < a + (Lib.index (S.drop a) [13, 10]).toNat + 2 + m.toNat then (0, w, true)
        else if S.length < a + (Lib.index (S.drop a) [13, 10]).toNat + 2 + m.toNat then (0, w + 1, false)
        else nextF S f (a + (Lib.index (S.drop a) [13, 10]).toNat + 2 + m.toNat) (w + 1)
theorem next_none {S : List UInt8} {f a w : Nat} (h : Lib.index (S.drop a) [13, 10] < 0) : nextF S (f + 1) a w = (0, w, decide (3000 < S.length)) := by
  rw [nextF, if_pos h]
theorem next_end {S : List UInt8} {f a w k : Nat} (h : Lib.index (S.drop a) [13, 10] = k) (hl : litF ((S.drop a).take k) = none) : nextF S (f + 1) a w = if 3000 < a + k + 2 then (0, w, true) else (a + k + 2, w, false) := by
  rw [nextF, if_neg (by omega), h, Int.toNat_natCast, hl]
theorem next_more {S : List UInt8} {f a w k : Nat} {m : Nat} (h : Lib.index (S.drop a) [13, 10] = k) (hl : litF ((S.drop a).take k) = some (m : Int)) : nextF S (f + 1) a w =
    if 3000 < a + k + 2 + m then (0, w, true) else if S.length < a + k + 2 + m then (0, w + 1, false) else nextF S f (a + k + 2 + m) (w + 1) := by
  rw [nextF, if_neg (by omega), h, Int.toNat_natCast, hl]
  simp only [Int.toNat_natCast]
end Go.Proofs.YtgblgbhfgiajiaaGreatDoor
