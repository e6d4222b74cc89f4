/- Plain laws: numbers that are sorted and made one of a kind rise. No program here. -/
import Derived.Test.YtciejgelfbjmgaaDoorPSeq
import Derived.Lib.SlicesCompact
namespace Go.Proofs.YtciejgelfbjmgaaDoor

theorem comp_up (d : Array Int) (hs : ∀ i j, i < j → j < d.size → d[i]! ≤ d[j]!) : ∀ m, m ≤ d.size → (Lib.compactUpTo d m).Pairwise (· < ·) ∧ (∀ x ∈ Lib.compactUpTo d m, ∃ j, j < m ∧ d[j]! = x) ∧ (Lib.compactUpTo d m).length ≤ m
  | 0, _ => ⟨List.Pairwise.nil, fun x hx => by simp [Lib.compactUpTo] at hx, by simp [Lib.compactUpTo]⟩
  | m + 1, hm => by
    obtain ⟨h1, h2, h3⟩ := comp_up d hs m (by omega)
    rw [Lib.compactUpTo_succ]
    by_cases hk : m = 0 ∨ d[m]! ≠ d[m - 1]!
    · have hke : Lib.keeps d m = true := by simp [Lib.keeps, hk]
      rw [hke, if_pos rfl]
      refine ⟨List.pairwise_append.2 ⟨h1, by simp, fun x hx y hy => ?_⟩, fun x hx => ?_, by simp; omega⟩
      · rw [List.mem_singleton] at hy
        subst hy
        obtain ⟨j, hj, rfl⟩ := h2 x hx
        have hne : d[m]! ≠ d[m - 1]! := by
          rcases hk with h | h
          · omega
          · exact h
        have h5 := hs (m - 1) m (by omega) (by omega)
        rcases Nat.lt_or_ge j (m - 1) with h | h
        · have := hs j (m - 1) h (by omega); omega
        · obtain rfl : j = m - 1 := by omega
          omega
      · rcases List.mem_append.1 hx with hx | hx
        · obtain ⟨j, hj, e⟩ := h2 x hx
          exact ⟨j, by omega, e⟩
        · rw [List.mem_singleton] at hx
          exact ⟨m, by omega, hx.symm⟩
    · have hke : Lib.keeps d m = false := by simp only [Lib.keeps]; simpa using hk
      rw [hke, if_neg (by decide), List.append_nil]
      exact ⟨h1, fun x hx => by obtain ⟨j, hj, e⟩ := h2 x hx; exact ⟨j, by omega, e⟩, by omega⟩
/-- numbers from 1 on, sorted, each once -/
def riseL (zs : List Int) : List Int := Lib.compact (zs.mergeSort fun x y => decide (x ≤ y))
theorem rise_rises {zs : List Int} (h : ∀ x ∈ zs, 1 ≤ x) : Rises (riseL zs) ∧ (∀ x ∈ riseL zs, x ∈ zs) ∧ (riseL zs).length ≤ zs.length := by
  obtain ⟨ys, hy⟩ : ∃ ys, (zs.mergeSort fun x y => decide (x ≤ y)) = ys := ⟨_, rfl⟩
  have hp : ys.Perm zs := by rw [← hy]; exact List.mergeSort_perm _ _
  have hs : ys.Pairwise (· ≤ ·) := by
    rw [← hy]
    have := List.pairwise_mergeSort (le := fun x y : Int => decide (x ≤ y)) (fun a b c h1 h2 => by simp only [decide_eq_true_eq] at *; omega) (fun a b => by simp only [Bool.or_eq_true, decide_eq_true_eq]; omega) zs
    exact this.imp (fun {a b} h => by simpa using h)
  have hs2 : ∀ i j, i < j → j < ys.toArray.size → ys.toArray[i]! ≤ ys.toArray[j]! := by
    intro i j hij hj
    rw [List.size_toArray] at hj
    have := List.pairwise_iff_getElem.1 hs i j (by omega) hj hij
    simpa [getElem!_pos, hj, show i < ys.length by omega] using this
  obtain ⟨h1, h2, h3⟩ := comp_up ys.toArray hs2 ys.length (by simp)
  have hmem : ∀ x ∈ Lib.compactUpTo ys.toArray ys.length, x ∈ zs := by
    intro x hx
    obtain ⟨j, hj, rfl⟩ := h2 x hx
    have : ys.toArray[j]! ∈ ys := by
      rw [getElem!_pos _ _ (by simpa using hj)]
      simp
    exact hp.mem_iff.1 this
  unfold riseL
  rw [hy]
  exact ⟨⟨h1, fun x hx => h x (hmem x hx)⟩, hmem, by have := hp.length_eq; unfold Lib.compact; omega⟩
end Go.Proofs.YtciejgelfbjmgaaDoor
