/- Plain laws of boxes that are called otherwise. No program in sight; no condition beyond those each names. -/
import Derived.Test.YtnhcccakgkoggaaGreatDoorPHouse3
namespace Go.Proofs.YtnhcccakgkoggaaGreatDoor

theorem insS_le (s : Bs) (L : List Bs) (h : Sorts L) : (insS s L).length ≤ L.length + 1 := by
  by_cases hs : s ∈ L
  · rw [insS_of_mem h hs]; omega
  · rw [insS_len h hs]; omega
theorem move_sorts (n m : Bs) : ∀ (l : List Bs) (h : HouseC), Sorts h.L → Sorts (moveAll h n m l).L
  | [], _, h => h
  | s :: l, h, hs => move_sorts n m l (moveC h s (m ++ s.drop n.length)) hs.del.ins
theorem move_len (n m : Bs) : ∀ (l : List Bs) (h : HouseC), Sorts h.L → (moveAll h n m l).L.length ≤ h.L.length + l.length
  | [], _, _ => Nat.le_refl _
  | s :: l, h, hs => by
    have h1 := move_len n m l (moveC h s (m ++ s.drop n.length)) hs.del.ins
    have h2 : (moveC h s (m ++ s.drop n.length)).L.length ≤ h.L.length + 1 := Nat.le_trans (insS_le _ _ hs.del) (by have := delS_le s h.L; omega)
    show (moveAll (moveC h s (m ++ s.drop n.length)) n m l).L.length ≤ h.L.length + (l.length + 1)
    omega
theorem move_same (n m : Bs) : ∀ (l : List Bs) (h : HouseC), (moveAll h n m l).W = h.W ∧ (moveAll h n m l).next = h.next
  | [], _ => ⟨rfl, rfl⟩
  | s :: l, h => move_same n m l (moveC h s (m ++ s.drop n.length))
theorem move_keep (n m : Bs) {x : Bs} : ∀ (l : List Bs) (h : HouseC), x ∈ h.L → x ∉ l → x ∈ (moveAll h n m l).L
  | [], _, h, _ => h
  | s :: l, h, hx, hn => move_keep n m l (moveC h s (m ++ s.drop n.length)) (mem_insS.2 (Or.inr (mem_delS.2 ⟨hx, fun e => hn (e ▸ List.mem_cons_self ..)⟩))) (fun e => hn (List.mem_cons_of_mem _ e))
theorem move_mem (n m : Bs) {x : Bs} : ∀ (l : List Bs) (h : HouseC), x ∈ (moveAll h n m l).L → x ∈ h.L ∨ ∃ s ∈ l, x = m ++ s.drop n.length
  | [], _, h => Or.inl h
  | s :: l, h, hx => by
    rcases move_mem n m l (moveC h s (m ++ s.drop n.length)) hx with h1 | ⟨t, ht, e⟩
    · rcases mem_insS.1 h1 with rfl | h2
      · exact Or.inr ⟨s, List.mem_cons_self .., rfl⟩
      · exact Or.inl (mem_delS.1 h2).1
    · exact Or.inr ⟨t, List.mem_cons_of_mem _ ht, e⟩
theorem inside_mem {L : List Bs} {n x : Bs} (h : x ∈ hinsideF L n) : x ∈ L ∧ ∃ r, x = n ++ 47 :: r := by
  unfold hinsideF at h
  obtain ⟨h1, h2⟩ := List.mem_filter.1 h
  obtain ⟨r, hr⟩ := List.isPrefixOf_iff_prefix.1 h2
  exact ⟨h1, r, by rw [← hr]; simp⟩
theorem inside_fresh {L : List Bs} (hs : Sorts L) (n : Bs) : (hinsideF L n ++ [n]).Nodup := by
  rw [List.nodup_append]
  refine ⟨List.Pairwise.filter _ hs.nodup, List.nodup_cons.2 ⟨by simp, List.nodup_nil⟩, ?_⟩
  intro a ha b hb e
  rw [List.mem_singleton] at hb
  subst hb
  obtain ⟨_, r, hr⟩ := inside_mem ha
  have := congrArg List.length (e.symm.trans hr)
  simp at this
theorem above_out {h : HouseC} {n m x : Bs} {l : List Bs} (hx : x ∈ haboveF h.L m) : x ∉ (moveAll h n m l).L := by
  obtain ⟨i, hi, _, h3, h4⟩ := above_mem hx
  intro e
  rcases move_mem n m l h e with h1 | ⟨s, _, h1⟩
  · exact h4 h1
  · have := congrArg List.length (h3.symm.trans h1)
    rw [List.length_take, List.length_append] at this
    omega
end Go.Proofs.YtnhcccakgkoggaaGreatDoor
