/- Plain laws: a number from 0 on, written in digits, is read as itself. No program in sight; no condition beyond those each names. -/
import Derived.Test.YtgblgbhfgiajiaaGreatDoorPWire
namespace Go.Proofs.YtgblgbhfgiajiaaGreatDoor

theorem dec_small {n : Nat} (h : n < 10) : Lib.decDigits n = [UInt8.ofNat (48 + n)] := by rw [Lib.decDigits, dif_pos h]
theorem dec_big {n : Nat} (h : ¬ n < 10) : Lib.decDigits n = Lib.decDigits (n / 10) ++ [UInt8.ofNat (48 + n % 10)] := by rw [Lib.decDigits, dif_neg h]
theorem digit_nat {k : Nat} (h : k < 10) : (UInt8.ofNat (48 + k)).toNat = 48 + k := by
  rw [UInt8.toNat_ofNat']; omega
theorem dec_digits (n : Nat) : ∀ c ∈ Lib.decDigits n, 48 ≤ c.toNat ∧ c.toNat ≤ 57 := by
  induction n using Nat.strongRecOn with
  | _ n ih =>
    by_cases h : n < 10
    · rw [dec_small h]
      intro c hc
      rw [List.mem_singleton] at hc
      subst hc
      rw [digit_nat h]; omega
    · rw [dec_big h]
      intro c hc
      rcases List.mem_append.1 hc with h1 | h1
      · exact ih (n / 10) (by omega) c h1
      · rw [List.mem_singleton] at h1
        subst h1
        rw [digit_nat (by omega)]; omega
theorem dec_ne (n : Nat) : Lib.decDigits n ≠ [] := by
  by_cases h : n < 10
  · rw [dec_small h]; simp
  · rw [dec_big h]; simp
theorem parse_snoc : ∀ (l : List UInt8) (acc u : Nat) (c : UInt8), Lib.parseUint10 acc l = .ok u → Lib.parseUint10 acc (l ++ [c]) = Lib.parseUint10 u [c]
  | [], acc, u, c, h => by
    simp only [Lib.parseUint10] at h
    injection h with h
    subst h; rfl
  | x :: r, acc, u, c, h => by
    rw [List.cons_append]
    unfold Lib.parseUint10 at h ⊢
    split at h
    · rename_i h1
      rw [if_pos h1]
      split at h
      · cases h
      · rename_i h2
        rw [if_neg h2]
        split at h
        · cases h
        · rename_i h3
          rw [if_neg h3]
          have := parse_snoc r _ u c h
          rw [this]
          conv => lhs; unfold Lib.parseUint10
    · cases h
theorem parse_one {u k : Nat} (hk : k < 10) (hu : u * 10 + k < 9223372036854775808) : Lib.parseUint10 u [UInt8.ofNat (48 + k)] = .ok (u * 10 + k) := by
  unfold Lib.parseUint10
  rw [if_pos (by rw [digit_nat hk]; omega), if_neg (by omega), if_neg (by rw [digit_nat hk]; omega)]
  unfold Lib.parseUint10
  rw [digit_nat hk]
  congr 1; omega
theorem parse_dec (n : Nat) (hn : n < 9223372036854775808) : Lib.parseUint10 0 (Lib.decDigits n) = .ok n := by
  induction n using Nat.strongRecOn with
  | _ n ih =>
    by_cases h : n < 10
    · rw [dec_small h, parse_one h (by omega)]; congr 1; omega
    · rw [dec_big h, parse_snoc _ _ _ _ (ih (n / 10) (by omega) (by omega)), parse_one (by omega) (by omega)]
      congr 1; omega
theorem itoa_nat (n : Nat) : Lib.itoa (n : Int) = Lib.decDigits n := by
  rw [Lib.itoa, if_neg (by omega), Int.toNat_natCast]
theorem atoi_itoa (n : Nat) (hn : n < 9223372036854775808) : Lib.atoiAll (Lib.decDigits n) = .ok (n : Int) := by
  have hd := dec_digits n
  have hp := parse_dec n hn
  cases hl : Lib.decDigits n with
  | nil => exact absurd hl (dec_ne n)
  | cons c r =>
    rw [hl] at hd hp
    have hc := hd c (List.mem_cons_self ..)
    unfold Lib.atoiAll
    dsimp only
    rw [if_neg (by omega)]
    unfold Lib.parseMag
    rw [if_neg (by simp), hp]
    dsimp only
    rw [if_neg (by omega), if_neg (by omega), if_neg (by omega)]
theorem num_dec (n : Nat) (hn : n < 4611686018427387904) : numF (Lib.decDigits n) = some (n : Int) := by
  unfold numF
  rw [atoi_itoa n (by omega)]
  dsimp only
  unfold numOf
  rw [if_pos ⟨by omega, by omega, itoa_nat n⟩]
theorem num_digits {s : List UInt8} {v : Int} (h : numF s = some v) : ∀ c ∈ s, 48 ≤ c.toNat ∧ c.toNat ≤ 57 := by
  unfold numF at h
  split at h
  · unfold numOf at h
    split at h
    · rename_i h1
      rw [← h1.2.2]
      obtain ⟨m, rfl⟩ : ∃ m : Nat, (m : Int) = ‹Int› := ⟨(‹Int›).toNat, by omega⟩
      rw [itoa_nat]
      exact dec_digits m
    · cases h
  · cases h
end Go.Proofs.YtgblgbhfgiajiaaGreatDoor
