/- Plain laws: how long a set is that is written. No program here. -/
import Derived.Test.YtgblgbhfgiajiaaGreatDoorPSeq
namespace Go.Proofs.YtgblgbhfgiajiaaGreatDoor

theorem dec_len_pow : ∀ (k n : Nat), n < 10 ^ (k + 1) → (Lib.decDigits n).length ≤ k + 1
  | k, n, h => by
    by_cases h1 : n < 10
    · rw [dec_small h1]; simp
    · cases k with
      | zero => omega
      | succ k =>
        rw [dec_big h1, List.length_append]
        have := dec_len_pow k (n / 10) (by rw [Nat.pow_succ] at h; omega)
        simp only [List.length_cons, List.length_nil]
        omega
theorem textN_len {n : Int} (h : okN n = true) : (textN n).length ≤ 10 := by
  unfold okN at h
  rw [Bool.and_eq_true, decide_eq_true_eq, decide_eq_true_eq] at h
  unfold textN
  split
  · decide
  · obtain ⟨m, rfl⟩ : ∃ m : Nat, n = (m : Int) := ⟨n.toNat, by omega⟩
    rw [itoa_nat]
    exact dec_len_pow 9 m (by omega)
theorem textR_len {r : Rg} (h1 : okN r.1 = true) (h2 : okN r.2 = true) : (textR r).length ≤ 21 := by
  have a := textN_len h1
  have b := textN_len h2
  unfold textR
  split
  · omega
  · rw [List.length_append, List.length_cons]; omega
theorem join_len_le (c : UInt8) (k : Nat) : ∀ l : List (List UInt8), (∀ t ∈ l, t.length ≤ k) → (Lib.join l [c]).length ≤ l.length * (k + 1)
  | [], _ => by simp [Lib.join]
  | [x], h => by
    have := h x (by simp)
    rw [Lib.join_one]
    simp only [List.length_cons, List.length_nil]; omega
  | x :: y :: r, h => by
    have h1 := h x (by simp)
    have ih := join_len_le c k (y :: r) (fun t ht => h t (List.mem_cons_of_mem _ ht))
    have e : Lib.join (x :: y :: r) [c] = x ++ [c] ++ Lib.join (y :: r) [c] := by simp [Lib.join, List.intercalate]
    rw [e, List.length_append, List.length_append]
    simp only [List.length_cons, List.length_nil] at ih ⊢
    have e2 : (r.length + 1 + 1) * (k + 1) = (r.length + 1) * (k + 1) + (k + 1) := Nat.succ_mul _ _
    rw [e2]
    omega
theorem printS_len {l : List Rg} (h : rightS l = true) : (printS l).length ≤ 440 := by
  obtain ⟨h1, h2, h3⟩ := right_parts h
  have := join_len_le 44 21 (l.map textR) (by
    intro t ht
    obtain ⟨r, hr, rfl⟩ := List.mem_map.1 ht
    exact textR_len (h3 r hr).1 (h3 r hr).2)
  rw [List.length_map] at this
  unfold printS
  omega
end Go.Proofs.YtgblgbhfgiajiaaGreatDoor
