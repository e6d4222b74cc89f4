/- Plain laws of flags' algebra: sets whatever the order, both, without. No program in sight. -/
import Derived.Test.YteclajckkjocnaaGreatDoorPkFlagF
namespace Go.Proofs.YteclajckkjocnaaGreatDoor
set_option linter.unusedSimpArgs false
theorem name_len {s t : List UInt8} (h : nameF s = .inr t) : t.length ≤ 20 := by
  unfold nameF at h
  split at h
  · split at h
    · rename_i u hu
      cases h
      have := sys_len (List.mem_of_find?_eq_some hu)
      omega
    · cases h
  · split at h
    · cases h
    · split at h
      · cases h
      · cases h; omega
theorem sys_fix : ∀ t ∈ sysL, nameF t = .inr t := by decide
theorem name_name {s t : List UInt8} (h : nameF s = .inr t) : nameF t = .inr t := by
  have h0 := h
  unfold nameF at h
  split at h
  · split at h
    · rename_i u hu
      cases h
      exact sys_fix _ (List.mem_of_find?_eq_some hu)
    · cases h
  · split at h
    · cases h
    · split at h
      · cases h
      · cases h; exact h0
/-- a flag's name, where it has one -/
def nm (s : List UInt8) : List UInt8 := match nameF s with
  | .inl _ => []
  | .inr t => t
theorem names_ok : ∀ {l ns : List (List UInt8)}, namesF l = .inr ns → (∀ s ∈ l, nameF s = .inr (nm s)) ∧ ns = l.map nm
  | [], ns, h => by
    rw [namesF] at h
    cases h
    exact ⟨fun s hs => absurd hs List.not_mem_nil, rfl⟩
  | s :: r, ns, h => by
    rw [namesF] at h
    cases hs : nameF s with
    | inl n => rw [hs] at h; cases h
    | inr t =>
      rw [hs] at h
      cases hr : namesF r with
      | inl n => rw [hr] at h; cases h
      | inr ms =>
        rw [hr] at h
        cases h
        obtain ⟨h1, h2⟩ := names_ok hr
        have e : nm s = t := by unfold nm; rw [hs]
        refine ⟨fun u hu => ?_, by rw [List.map_cons, e, h2]⟩
        rcases List.mem_cons.1 hu with rfl | hu
        · rw [e]; exact hs
        · exact h1 u hu
theorem names_of : ∀ {l : List (List UInt8)}, (∀ s ∈ l, nameF s = .inr (nm s)) → namesF l = .inr (l.map nm)
  | [], _ => rfl
  | s :: r, h => by rw [namesF, h s List.mem_cons_self, names_of (fun u hu => h u (List.mem_cons_of_mem _ hu)), List.map_cons]
theorem set_ok {l x : List (List UInt8)} (h : setF l = .inr x) : (∀ s ∈ l, nameF s = .inr (nm s)) ∧ x = canonF (l.map nm) ∧ x.length ≤ 12 := by
  unfold setF at h
  cases hn : namesF l with
  | inl n => rw [hn] at h; cases h
  | inr ns =>
    rw [hn] at h
    simp only at h
    split at h
    · cases h
    · cases h
      obtain ⟨h1, h2⟩ := names_ok hn
      exact ⟨h1, by rw [h2], by omega⟩
theorem set_strict {l x : List (List UInt8)} (h : setF l = .inr x) : Strict x := by
  obtain ⟨_, h2, _⟩ := set_ok h
  rw [h2]; exact strict_canon _
theorem set_names {l x : List (List UInt8)} (h : setF l = .inr x) : ∀ s ∈ x, nameF s = .inr s := by
  obtain ⟨h1, h2, _⟩ := set_ok h
  intro s hs
  rw [h2, mem_canon, List.mem_map] at hs
  obtain ⟨u, hu, rfl⟩ := hs
  exact name_name (h1 u hu)
theorem set_short {l x : List (List UInt8)} (h : setF l = .inr x) : ∀ s ∈ x, s.length ≤ 20 := fun s hs => name_len (set_names h s hs)
theorem mem_not (a b : List (List UInt8)) (z : List UInt8) : z ∈ notF a b ↔ z ∈ a ∧ z ∉ b := by simp [notF]
theorem strict_not {a : List (List UInt8)} (h : Strict a) (b : List (List UInt8)) : Strict (notF a b) := List.Pairwise.filter _ h
end Go.Proofs.YteclajckkjocnaaGreatDoor
