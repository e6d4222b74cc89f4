/- Plain laws for the reference's parts: a split's first piece, cuts one by one. No condition. -/
import Derived.Test.YtmjfhhladicacaaGreatDoorPMime2
import Derived.Lib.CountLaws
import Derived.Lib.Split
namespace Go.Proofs.YtmjfhhladicacaaGreatDoor

theorem split_first (v : List UInt8) (c : UInt8) : ∃ Q, Lib.split v [c] = (Lib.cut v [c]).1 :: Q := by
  unfold Lib.split Lib.cut
  by_cases h : 0 ≤ Lib.index v [c]
  · rw [if_pos h]
    obtain ⟨i, hi⟩ : ∃ i : Nat, Lib.index v [c] = i := ⟨(Lib.index v [c]).toNat, by omega⟩
    rw [Lib.count_hit (by simp) hi, hi, Nat.add_comm, Lib.splitK, hi, if_neg (by simp)]
    exact ⟨_, rfl⟩
  · rw [if_neg h]
    have h1 : Lib.index v [c] = -1 := by
      have := Lib.index_ge v [c]
      omega
    rw [Lib.count_miss h1]
    exact ⟨[], rfl⟩
theorem cuts_out (s : List UInt8) (te : Nat) (b : List UInt8) : ∀ (g a : Nat) (op : Option Nat) (out : List (Nat × Nat)), cutsF s te b g a op out = out ++ cutsF s te b g a op []
  | 0, a, op, out => by simp [cutsF]
  | g + 1, a, op, out => by
    have h1 : addCut op out a = out ++ addCut op [] a := by cases op <;> simp [addCut]
    have h2 : endCut op out te = out ++ endCut op [] te := by cases op <;> simp [endCut]
    unfold cutsF
    by_cases hlt : a < te
    · rw [if_pos hlt, if_pos hlt]
      split
      · split
        · exact h1
        · rw [cuts_out s te b g _ _ (addCut op out a), cuts_out s te b g _ _ (addCut op [] a), h1, List.append_assoc]
      · exact cuts_out s te b g _ _ out
    · rw [if_neg hlt, if_neg hlt]
      exact h2
end Go.Proofs.YtmjfhhladicacaaGreatDoor
