/- Plain laws of flags' algebra: sets whatever the order, both, without. No program in sight. -/
import Derived.Test.YtdlfbhbgemoelaaGreatDoorFlagF
namespace Go.Proofs.YtdlfbhbgemoelaaGreatDoor

theorem name_len {s t : List UInt8} (h : nameF s = .inr t) : t.length ≤ 20 := by
  unfold nameF at h
  split at h
  · split at h
    · rename_i u hu
      cases h
      have := sys_len (List.mem_of_find?_eq_some hu)
      omega
    · cases h
  · split at h
    · cases h
    · split at h
      · cases h
      · cases h; omega
theorem sys_fix : ∀ t ∈ sysL, nameF t = .inr t := by decide
theorem name_name {s t : List UInt8} (h : nameF s = .inr t) : nameF t = .inr t := by
  have h0 := h
  unfold nameF at h
  split at h
  · split at h
    · rename_i u hu
      cases h
      exact sys_fix _ (List.mem_of_find?_eq_some hu)
    · cases h
  · split at h
    · cases h
    · split at h
      · cases h
      · cases h; exact h0
/-- a flag's name, where it has one -/
def nm (s : List UInt8) : List UInt8 := match nameF s with
  | .inl _ => []
  | .inr t => t
theorem names_ok : ∀ {l ns : List (List UInt8)}, namesF l = .inr ns → (∀ s ∈ l, nameF s = .inr (nm s)) ∧ ns = l.map nm
  | [], ns, h => by
    rw [namesF] at h
    cases h
    exact ⟨fun s hs => absurd hs List.not_mem_nil, rfl⟩
  | s :: r, ns, h => by
    rw [namesF] at h
    cases hs : nameF s with
    | inl n => rw [hs] at h; cases h
    | inr t =>
      rw [hs] at h
      cases hr : namesF r with
      | inl n => rw [hr] at h; cases h
      | inr ms =>
        rw [hr] at h
        cases h
        obtain ⟨h1, h2⟩ := names_ok hr
        have e : nm s = t := by unfold nm; rw [hs]
        refine ⟨fun u hu => ?_, by rw [List.map_cons, e, h2]⟩
        rcases List.mem_cons.1 hu with rfl | hu
        · rw [e]; exact hs
        · exact h1 u hu
theorem names_of : ∀ {l : List (List UInt8)}, (∀ s ∈ l, nameF s = .inr (nm s)) → namesF l = .inr (l.map nm)
  | [], _ => rfl
  | s :: r, h => by rw [namesF, h s List.mem_cons_self, names_of (fun u hu => h u (List.mem_cons_of_mem _ hu)), List.map_cons]
theorem set_ok {l x : List (List UInt8)} (h : setF l = .inr x) : (∀ s ∈ l, nameF s = .inr (nm s)) ∧ x = canonF (l.map nm) ∧ x.length ≤ 12 := by
  unfold setF at h
  cases hn : namesF l with
  | inl n => rw [hn] at h; cases h
  | inr ns =>
    rw [hn] at h
    simp only at h
    split at h
    · cases h
    · cases h
      obtain ⟨h1, h2⟩ := names_ok hn
      exact ⟨h1, by rw [h2], by omega⟩
theorem set_congr {l m x : List (List UInt8)} (h : setF l = .inr x) (hm : ∀ s, s ∈ m ↔ s ∈ l) : setF m = .inr x := by
  obtain ⟨h1, h2, h3⟩ := set_ok h
  have hn := names_of (l := m) (fun s hs => h1 s ((hm s).1 hs))
  have e : canonF (m.map nm) = x := by
    rw [h2]
    refine canon_congr (fun z => ?_)
    rw [List.mem_map, List.mem_map]
    exact ⟨fun ⟨s, hs, e⟩ => ⟨s, (hm s).1 hs, e⟩, fun ⟨s, hs, e⟩ => ⟨s, (hm s).2 hs, e⟩⟩
  unfold setF
  rw [hn]
  simp only
  rw [e, if_neg (by omega)]
theorem set_strict {l x : List (List UInt8)} (h : setF l = .inr x) : Strict x := by
  obtain ⟨_, h2, _⟩ := set_ok h
  rw [h2]; exact strict_canon _
theorem set_names {l x : List (List UInt8)} (h : setF l = .inr x) : ∀ s ∈ x, nameF s = .inr s := by
  obtain ⟨h1, h2, _⟩ := set_ok h
  intro s hs
  rw [h2, mem_canon, List.mem_map] at hs
  obtain ⟨u, hu, rfl⟩ := hs
  exact name_name (h1 u hu)
theorem set_short {l x : List (List UInt8)} (h : setF l = .inr x) : ∀ s ∈ x, s.length ≤ 20 := fun s hs => name_len (set_names h s hs)
theorem mem_not (a b : List (List UInt8)) (z : List UInt8) : z ∈ notF a b ↔ z ∈ a ∧ z ∉ b := by simp [notF]
theorem strict_not {a : List (List UInt8)} (h : Strict a) (b : List (List UInt8)) : Strict (notF a b) := List.Pairwise.filter _ h
theorem orF_comm (x y : List (List UInt8)) : canonF (y ++ x) = canonF (x ++ y) := canon_congr (fun z => by rw [List.mem_append, List.mem_append]; exact _root_.or_comm)
theorem or_self {x : List (List UInt8)} (h : Strict x) : canonF (x ++ x) = x := (canon_of h (fun z => by simp)).symm
theorem not_self (x : List (List UInt8)) : notF x x = [] := by simp [notF]
theorem not_or {x : List (List UInt8)} (h : Strict x) (y : List (List UInt8)) : notF (canonF (x ++ y)) y = notF x y :=
  strict_eq _ _ (strict_not (strict_canon _) y) (strict_not h y) (fun z => by
    rw [mem_not, mem_not, mem_canon, List.mem_append]
    constructor
    · rintro ⟨h1 | h1, h2⟩
      · exact ⟨h1, h2⟩
      · exact absurd h1 h2
    · rintro ⟨h1, h2⟩; exact ⟨Or.inl h1, h2⟩)
theorem or_not (x y : List (List UInt8)) : canonF (notF x y ++ y) = canonF (x ++ y) := canon_congr (fun z => by
  rw [List.mem_append, List.mem_append, mem_not]
  constructor
  · rintro (⟨h, _⟩ | h)
    · exact Or.inl h
    · exact Or.inr h
  · rintro (h | h)
    · rcases Classical.em (z ∈ y) with k | k
      · exact Or.inr k
      · exact Or.inl ⟨h, k⟩
    · exact Or.inr h)
theorem has_name {l : List (List UInt8)} {s : List UInt8} (h : nameF s = .inr s) : hasF l s = decide (s ∈ l) := by unfold hasF; rw [h]
/-- the rotation that the statement tries -/
def turnL (a : List (List UInt8)) (k : Nat) (s : List UInt8) : List (List UInt8) := a.drop k ++ a.take k ++ [s]
theorem mem_turn {a : List (List UInt8)} {k : Nat} {s : List UInt8} (hs : a[k]? = some s) (z : List UInt8) : z ∈ turnL a k s ↔ z ∈ a := by
  unfold turnL
  have h := List.take_append_drop k a
  rw [List.mem_append, List.mem_append, List.mem_singleton]
  constructor
  · rintro ((h1 | h1) | rfl)
    · exact List.mem_of_mem_drop h1
    · exact List.mem_of_mem_take h1
    · exact List.mem_of_getElem? hs
  · intro hz
    rw [← h, List.mem_append] at hz
    rcases hz with h1 | h1
    · exact Or.inl (Or.inr h1)
    · exact Or.inl (Or.inl h1)
end Go.Proofs.YtdlfbhbgemoelaaGreatDoor
