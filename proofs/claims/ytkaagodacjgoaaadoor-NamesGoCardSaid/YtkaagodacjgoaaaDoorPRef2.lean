/- Plain facts on how the reference reads names: where a code ends, bits cut into units, units taken together. No program in sight; no condition beyond those each lemma names. -/
import Derived.Test.YtkaagodacjgoaaaDoorPRef
namespace Go.Proofs.YtkaagodacjgoaaaDoor
open Go.Lib

theorem cut1_index (c : UInt8) : ∀ l : List UInt8, (indexByte l c = -1 ∧ (cut1 c l).2.2 = false) ∨ ∃ k : Nat, indexByte l c = (k : Int) ∧ k < l.length ∧ cut1 c l = (l.take k, l.drop (k + 1), true)
  | [] => Or.inl ⟨rfl, rfl⟩
  | b :: l => by
    by_cases hb : b = c
    · right
      refine ⟨0, ?_, by simp, ?_⟩
      · simp [indexByte, hb]
      · simp [cut1, hb]
    · have h2 : (b == c) = false := by simpa using hb
      rcases cut1_index c l with ⟨h, h'⟩ | ⟨k, h, hk, h'⟩
      · left
        refine ⟨?_, ?_⟩
        · simp [indexByte, h2, h]
        · simp [cut1, hb, h']
      · right
        refine ⟨k + 1, ?_, by simp; omega, ?_⟩
        · have h6 : ((k : Int) == -1) = false := by rw [beq_eq_false_iff_ne]; omega
          simp [indexByte, h2, h, h6]
        · simp [cut1, hb, h']
/-- a code's end, sought from its & on -/
theorem amp_none (rest : List UInt8) (n : Nat) (out : List UInt8) (h : indexByte (38 :: rest) 45 < 0) : parseF (n + 1) (38 :: rest) out = none := by
  have e : (cut1 45 rest).2.2 = false := by
    rcases cut1_index 45 rest with ⟨_, h'⟩ | ⟨k, h1, _, _⟩
    · exact h'
    · exfalso
      have h6 : ((k : Int) == -1) = false := by rw [beq_eq_false_iff_ne]; omega
      simp [indexByte, h1, h6] at h
      omega
  unfold parseF
  simp [cut1, e]
theorem amp_some (rest : List UInt8) (n : Nat) (out : List UInt8) (k : Nat) (h : indexByte (38 :: rest) 45 = (k : Int)) :
    ∃ j, k = j + 1 ∧ j < rest.length ∧ parseF (n + 1) (38 :: rest) out = match runesOf (rest.take j) with
      | none => none
      | some l => parseF n (rest.drop (j + 1)) (out ++ (if rest.take j = [] then [38] else []) ++ textOf l) := by
  rcases cut1_index 45 rest with ⟨h1, _⟩ | ⟨j, h1, h2, h3⟩
  · exfalso
    simp [indexByte, h1] at h
  · have h6 : ((j : Int) == -1) = false := by rw [beq_eq_false_iff_ne]; omega
    simp [indexByte, h1, h6] at h
    refine ⟨j, by omega, h2, ?_⟩
    have hc : cut1 38 (38 :: rest) = ([], rest, true) := by simp [cut1]
    rw [parseF, if_neg (List.cons_ne_nil _ _), hc]
    simp only [h3, Bool.true_eq_false, if_false, List.append_nil]
    cases runesOf (rest.take j) <;> rfl
set_option maxRecDepth 100000 in
theorem rpair_two (u v : Nat) (l : List Nat) (h1 : 55296 ≤ u) (h2 : u ≤ 56319) (h3 : 56320 ≤ v) (h4 : v ≤ 57343) : pairU (u :: v :: l) = (pairU l).map ((65536 + (u - 55296) * 1024 + v - 56320) :: ·) := by
  simp only [pairU]
  rw [if_pos (by omega), if_neg (by omega)]
  have e : 65536 + (u % 1024) * 1024 + v % 1024 = 65536 + (u - 55296) * 1024 + v - 56320 := by omega
  rw [e]
theorem rpair_bad1 (u : Nat) (h1 : 55296 ≤ u) (h2 : u ≤ 57343) : pairU [u] = none := by
  simp only [pairU]; rw [if_pos (by omega)]
set_option maxRecDepth 100000 in
theorem rpair_bad2 (u v : Nat) (l : List Nat) (h1 : 55296 ≤ u) (h2 : u ≤ 57343) (h3 : ¬ (u ≤ 56319 ∧ 56320 ≤ v ∧ v ≤ 57343)) : pairU (u :: v :: l) = none := by
  simp only [pairU]
  rw [if_pos (by omega), if_pos (by omega)]
/-- the units that bits are, when fewer than a unit's are left -/
theorem units_bits (ks us : List Nat) (r : List Bool) (hk : ∀ k ∈ ks, k < 64) (hu : ∀ u ∈ us, u < 65536) (hr : r.length < 16) (h : allBits 16 us ++ r = allBits 6 ks) : (unFold ks).1 = us := by
  obtain ⟨h1, q, h2, h3⟩ := unFold_spec ks hk
  exact (allBits_inj 16 _ _ q r h1 hu h2 hr (by rw [h3, h])).1
end Go.Proofs.YtkaagodacjgoaaaDoor
