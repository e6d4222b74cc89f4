/- Plain law: single bytes replaced by texts: what it gives, how long it is. No program here. -/
import Derived.Lib.CountLaws
namespace Go.Proofs.YtclelkoefeiloaaGreatDoor
open Go

/-- each byte that is a key replaced -/
def repF (ps : List (UInt8 × List UInt8)) (s : List UInt8) : List UInt8 := s.flatMap fun c => (ps.lookup c).getD [c]
theorem repF_nil (ps : List (UInt8 × List UInt8)) : repF ps [] = [] := rfl
theorem repF_cons (ps : List (UInt8 × List UInt8)) (c : UInt8) (r : List UInt8) : repF ps (c :: r) = (ps.lookup c).getD [c] ++ repF ps r := rfl
theorem repF_snoc (ps : List (UInt8 × List UInt8)) (s : List UInt8) (c : UInt8) : repF ps (s ++ [c]) = repF ps s ++ (ps.lookup c).getD [c] := by simp [repF]
/-- is any byte a key -/
def anyF (ps : List (UInt8 × List UInt8)) (s : List UInt8) : Bool := s.any fun c => (ps.lookup c).isSome
theorem repF_none {ps : List (UInt8 × List UInt8)} {s : List UInt8} (h : anyF ps s = false) : repF ps s = s := by
  induction s with
  | nil => rfl
  | cons c r ih =>
    simp only [anyF, List.any_cons, Bool.or_eq_false_iff] at h
    rw [repF_cons, ih h.2]
    cases hl : ps.lookup c with
    | none => rfl
    | some x => rw [hl] at h; cases h.1
/-- only the keys of ks replaced: how long -/
def lenK (ps : List (UInt8 × List UInt8)) (ks : List UInt8) (s : List UInt8) : Int := s.foldr (fun c n => (if ks.contains c then ((((ps.lookup c).getD [c]).length : Nat) : Int) else 1) + n) 0
def anyK (ks : List UInt8) (s : List UInt8) : Bool := s.any fun c => ks.contains c
theorem lenK_nil (ps : List (UInt8 × List UInt8)) (s : List UInt8) : lenK ps [] s = s.length := by
  induction s with
  | nil => rfl
  | cons c r ih => simp only [lenK, List.foldr_cons] at ih ⊢; rw [ih]; simp; omega
theorem anyK_nil (s : List UInt8) : anyK [] s = false := by simp [anyK]
theorem lenK_snoc (ps : List (UInt8 × List UInt8)) (ks : List UInt8) (k : UInt8) (s : List UInt8) (hk : k ∉ ks) : lenK ps (ks ++ [k]) s = lenK ps ks s + (s.count k : Int) * ((((ps.lookup k).getD [k]).length : Int) - 1) := by
  induction s with
  | nil => simp [lenK]
  | cons c r ih =>
    simp only [lenK, List.foldr_cons] at ih ⊢
    rw [ih]
    by_cases e : c = k
    · subst e
      have h1 : (ks ++ [c]).contains c = true := by simp
      have h2 : ks.contains c = false := by simpa using hk
      rw [if_pos h1, h2, List.count_cons_self]
      simp only [Bool.false_eq_true, if_false]
      rw [Int.natCast_add, Int.add_mul]
      omega
    · have h1 : (ks ++ [k]).contains c = ks.contains c := by simp [e]
      rw [h1, List.count_cons_of_ne e]
      omega
theorem anyK_snoc (ks : List UInt8) (k : UInt8) (s : List UInt8) : anyK (ks ++ [k]) s = (anyK ks s || decide (s.count k ≠ 0)) := by
  rw [Bool.eq_iff_iff]
  simp only [anyK, List.any_eq_true, List.contains_eq_mem, List.mem_append, List.mem_singleton, decide_eq_true_eq, Bool.or_eq_true]
  constructor
  · rintro ⟨c, hc, h | rfl⟩
    · exact Or.inl ⟨c, hc, h⟩
    · exact Or.inr (fun e => (List.count_eq_zero.1 e) hc)
  · rintro (⟨c, hc, h⟩ | h)
    · exact ⟨c, hc, Or.inl h⟩
    · refine ⟨k, ?_, Or.inr rfl⟩
      exact Decidable.byContradiction fun e => h (List.count_eq_zero.2 e)
theorem lenK_all {ps : List (UInt8 × List UInt8)} {ks : List UInt8} (h : ∀ c, ks.contains c = (ps.lookup c).isSome) (s : List UInt8) : lenK ps ks s = (repF ps s).length := by
  induction s with
  | nil => rfl
  | cons c r ih =>
    simp only [lenK, List.foldr_cons] at ih ⊢
    rw [ih, repF_cons, List.length_append, h c]
    cases hl : ps.lookup c with
    | none => simp
    | some x => simp
theorem anyK_all {ps : List (UInt8 × List UInt8)} {ks : List UInt8} (h : ∀ c, ks.contains c = (ps.lookup c).isSome) (s : List UInt8) : anyK ks s = anyF ps s := by
  unfold anyK anyF
  congr 1
  funext c
  exact h c
theorem look_mem {ps : List (UInt8 × List UInt8)} {c : UInt8} {x : List UInt8} (h : ps.lookup c = some x) : (c, x) ∈ ps := by
  induction ps with
  | nil => cases h
  | cons p r ih =>
    rw [List.lookup_cons] at h
    by_cases e : c = p.1
    · subst e
      simp at h
      subst h
      exact List.mem_cons_self
    · rw [show (c == p.1) = false by simpa using e] at h
      exact List.mem_cons_of_mem _ (ih h)
theorem lenK_bound {ps : List (UInt8 × List UInt8)} (h : ∀ p ∈ ps, p.2.length ≤ 100) (ks s : List UInt8) : 0 ≤ lenK ps ks s ∧ lenK ps ks s ≤ 100 * (s.length : Int) := by
  induction s with
  | nil => exact ⟨Int.le_refl _, Int.le_refl _⟩
  | cons c r ih =>
    simp only [lenK, List.foldr_cons] at ih ⊢
    have hx : ((ps.lookup c).getD [c]).length ≤ 100 := by
      cases hl : ps.lookup c with
      | none => simp
      | some x => exact h _ (look_mem hl)
    rw [List.length_cons]
    split
    · omega
    · omega
theorem repF_bound {ps : List (UInt8 × List UInt8)} (h : ∀ p ∈ ps, p.2.length ≤ 100) (s : List UInt8) : (repF ps s).length ≤ 100 * s.length := by
  induction s with
  | nil => simp [repF]
  | cons c r ih =>
    have hx : ((ps.lookup c).getD [c]).length ≤ 100 := by
      cases hl : ps.lookup c with
      | none => simp
      | some x => exact h _ (look_mem hl)
    rw [repF_cons, List.length_append, List.length_cons]
    omega
theorem keys_all (ps : List (UInt8 × List UInt8)) (c : UInt8) : (ps.map (·.1)).reverse.contains c = (ps.lookup c).isSome := by
  induction ps with
  | nil => rfl
  | cons p r ih =>
    rw [List.lookup_cons]
    by_cases e : c = p.1
    · subst e; simp
    · rw [show (c == p.1) = false by simpa using e]
      simp only [List.map_cons, List.reverse_cons, ← ih]
      simp [e]
end Go.Proofs.YtclelkoefeiloaaGreatDoor
