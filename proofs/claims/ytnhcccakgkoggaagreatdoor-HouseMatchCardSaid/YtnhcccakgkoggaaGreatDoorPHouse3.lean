/- Plain laws of names in which one lies, and of boxes that are made: each is new. No program in sight; no condition beyond those each names. -/
import Derived.Test.YtnhcccakgkoggaaGreatDoorPHouse2
namespace Go.Proofs.YtnhcccakgkoggaaGreatDoor

theorem mem_insAll {x : Bs} : ∀ {l L : List Bs}, x ∈ insAll L l ↔ x ∈ L ∨ x ∈ l
  | [], L => by simp [insAll]
  | s :: l, L => by
    show x ∈ insAll (insS s L) l ↔ _
    rw [mem_insAll (l := l), mem_insS, List.mem_cons]
    constructor
    · rintro ((h | h) | h)
      · exact Or.inr (Or.inl h)
      · exact Or.inl h
      · exact Or.inr (Or.inr h)
    · rintro (h | h | h)
      · exact Or.inl (Or.inr h)
      · exact Or.inl (Or.inl h)
      · exact Or.inr h
theorem sorts_insAll : ∀ {l L : List Bs}, Sorts L → Sorts (insAll L l)
  | [], _, h => h
  | s :: l, L, h => sorts_insAll (l := l) (L := insS s L) h.ins
theorem insAll_len : ∀ {l L : List Bs}, Sorts L → l.Nodup → (∀ x ∈ l, x ∉ L) → (insAll L l).length = L.length + l.length
  | [], _, _, _, _ => rfl
  | s :: l, L, h, hn, hf => by
    obtain ⟨h1, h2⟩ := List.nodup_cons.1 hn
    have hf2 : ∀ x ∈ l, x ∉ insS s L := fun x hx e => by
      rcases mem_insS.1 e with e | e
      · subst e; exact h1 hx
      · exact hf x (List.mem_cons_of_mem _ hx) e
    have h3 := insAll_len h.ins h2 hf2
    have h4 := insS_len h (hf s (List.mem_cons_self ..))
    show (insAll (insS s L) l).length = L.length + (l.length + 1)
    omega
theorem above_mem {L : List Bs} {n x : Bs} (h : x ∈ haboveF L n) : ∃ i, i < n.length ∧ n.getD i 0 = 47 ∧ x = n.take i ∧ x ∉ L := by
  unfold haboveF haboveK at h
  obtain ⟨i, hi, rfl⟩ := List.mem_map.1 h
  obtain ⟨h1, h2⟩ := List.mem_filter.1 hi
  simp only [Bool.and_eq_true, beq_iff_eq, Bool.not_eq_true', decide_eq_false_iff_not] at h2
  exact ⟨i, List.mem_range.1 h1, h2.1, rfl, h2.2⟩
theorem above_nodup (L : List Bs) (n : Bs) : (haboveF L n).Nodup := by
  unfold haboveF haboveK
  refine List.pairwise_map.2 (((List.nodup_range (n := n.length)).filter _).imp_of_mem fun {i j} hi hj hne e => hne ?_)
  have h1 := List.mem_range.1 (List.mem_filter.1 hi).1
  have h2 := List.mem_range.1 (List.mem_filter.1 hj).1
  have := congrArg List.length e
  rw [List.length_take, List.length_take] at this
  omega
theorem made_fresh {L : List Bs} {n : Bs} (hn : n ∉ L) : (haboveF L n ++ [n]).Nodup ∧ ∀ x ∈ haboveF L n ++ [n], x ∉ L ∧ x.length ≤ n.length := by
  constructor
  · rw [List.nodup_append]
    refine ⟨above_nodup L n, List.nodup_cons.2 ⟨by simp, List.nodup_nil⟩, ?_⟩
    intro a ha b hb e
    rw [List.mem_singleton] at hb
    subst hb
    obtain ⟨i, hi, _, h3, _⟩ := above_mem ha
    have := congrArg List.length (e.symm.trans h3)
    rw [List.length_take] at this
    omega
  · intro x hx
    rcases List.mem_append.1 hx with h | h
    · obtain ⟨i, _, _, h3, h4⟩ := above_mem h
      exact ⟨h4, by rw [h3, List.length_take]; omega⟩
    · rw [List.mem_singleton] at h
      subst h
      exact ⟨hn, Nat.le_refl _⟩
theorem nodup_at {l : List Bs} (h : l.Nodup) {k : Nat} {x : Bs} (hk : l[k]? = some x) : x ∉ l.take k := by
  intro hm
  obtain ⟨j, hj⟩ := List.mem_iff_getElem?.1 hm
  have hjk : j < k := by have := (List.getElem?_eq_some_iff.1 hj).1; rw [List.length_take] at this; omega
  rw [List.getElem?_take_of_lt hjk] at hj
  have h1 := List.getElem?_eq_some_iff.1 hj
  have h2 := List.getElem?_eq_some_iff.1 hk
  have := (List.getElem_inj h (h₀ := h1.1) (h₁ := h2.1)).1 (by rw [h1.2, h2.2])
  omega
end Go.Proofs.YtnhcccakgkoggaaGreatDoor
