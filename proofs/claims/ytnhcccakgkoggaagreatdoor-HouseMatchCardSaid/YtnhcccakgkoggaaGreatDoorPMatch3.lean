/- HouseMatch's plain law: what a pattern asks, in the words of the statement. No program in sight; no condition beyond those each names. -/
import Derived.Test.YtnhcccakgkoggaaGreatDoorPMatch2
import Derived.Test.YtnhcccakgkoggaaGreatDoorPHead2
import Derived.Lib.IndexAny
import Derived.Lib.IndexMore
import Derived.Lib.IndexLaws
namespace Go.Proofs.YtnhcccakgkoggaaGreatDoor

theorem has_text {s sub : List UInt8} : Lib.contains s sub = true ↔ ∃ a b, s = a ++ sub ++ b := by
  unfold Lib.contains
  rw [decide_eq_true_eq]
  rcases Lib.index_spec s sub with ⟨h1, h2⟩ | ⟨i, h1, h2, h3, _⟩
  · rw [h1]
    refine ⟨fun h => absurd h (by decide), fun ⟨a, b, e⟩ => ?_⟩
    have := h2 a.length (by rw [e]; simp)
    unfold Lib.occAt at this
    rw [e, List.append_assoc, List.drop_left] at this
    have h4 : sub.isPrefixOf (sub ++ b) = true := List.isPrefixOf_iff_prefix.2 (List.prefix_append _ _)
    rw [h4] at this
    cases this
  · rw [h1]
    refine ⟨fun _ => ?_, fun _ => Int.natCast_nonneg i⟩
    unfold Lib.occAt at h3
    obtain ⟨r, hr⟩ := List.isPrefixOf_iff_prefix.1 h3
    exact ⟨s.take i, r, by rw [List.append_assoc, hr, List.take_append_drop]⟩
theorem has_one {s : List UInt8} {c : UInt8} : Lib.contains s [c] = decide (c ∈ s) := by
  rw [Bool.eq_iff_iff, has_text, decide_eq_true_eq]
  constructor
  · rintro ⟨a, b, rfl⟩; simp
  · intro h
    obtain ⟨a, b, rfl⟩ := List.append_of_mem h
    exact ⟨a, b, by simp⟩
theorem bare_of {p : List UInt8} (h : Lib.containsAny p [42, 37] = false) : Bare p := fun c hc => by
  have := noAny h c hc
  simp only [List.contains_cons, List.contains_nil, Bool.or_false, Bool.or_eq_false_iff, beq_eq_false_iff_ne] at this
  exact this
/-- somewhere a text has another one, with no / ahead of it, and none behind -/
def atB (p s : List UInt8) (i : Nat) : Bool := ((s.drop i).take p.length == p) && (!Lib.contains (s.take i) [47] && !Lib.contains (s.drop (i + p.length)) [47])
/-- from a place on -/
def fromB (p s : List UInt8) : Nat → Nat → Bool
  | _, 0 => false
  | i, g + 1 => atB p s i || fromB p s (i + 1) g
def aroundB (p s : List UInt8) : Bool := fromB p s 0 (s.length + 1 - p.length)
theorem fromB_iff {p s : List UInt8} : ∀ {g i : Nat}, fromB p s i g = true ↔ ∃ j, i ≤ j ∧ j < i + g ∧ atB p s j = true
  | 0, i => by simp [fromB]; intro j h1 h2; omega
  | g + 1, i => by
    rw [fromB, Bool.or_eq_true, fromB_iff (g := g) (i := i + 1)]
    constructor
    · rintro (h | ⟨j, h1, h2, h3⟩)
      · exact ⟨i, Nat.le_refl _, by omega, h⟩
      · exact ⟨j, by omega, by omega, h3⟩
    · rintro ⟨j, h1, h2, h3⟩
      by_cases e : j = i
      · subst e; exact Or.inl h3
      · exact Or.inr ⟨j, by omega, by omega, h3⟩
theorem atB_iff {p s : List UInt8} {i : Nat} (h : i + p.length ≤ s.length) : atB p s i = true ↔ s = s.take i ++ p ++ s.drop (i + p.length) ∧ 47 ∉ s.take i ∧ 47 ∉ s.drop (i + p.length) := by
  unfold atB
  rw [Bool.and_eq_true, Bool.and_eq_true, has_one, has_one, beq_iff_eq, Bool.not_eq_true', Bool.not_eq_true', decide_eq_false_iff_not, decide_eq_false_iff_not]
  constructor
  · rintro ⟨h1, h2, h3⟩
    refine ⟨?_, h2, h3⟩
    have e1 := List.take_append_drop i s
    have e2 := List.take_append_drop p.length (s.drop i)
    rw [h1, List.drop_drop] at e2
    rw [List.append_assoc, e2, e1]
  · rintro ⟨h1, h2, h3⟩
    refine ⟨?_, h2, h3⟩
    have hl : (s.take i).length = i := by rw [List.length_take]; omega
    have e3 := congrArg (List.drop i) h1
    rw [List.append_assoc] at e3
    have e4 : (s.take i).drop i = [] := List.drop_of_length_le (by omega)
    have e5 : ∀ X : List UInt8, (s.take i ++ X).drop i = X := fun X => by rw [List.drop_append, e4, hl, Nat.sub_self]; simp
    rw [e5] at e3
    rw [e3, List.take_left]
theorem around_iff {p s : List UInt8} : aroundB p s = true ↔ ∃ a b, s = a ++ p ++ b ∧ 47 ∉ a ∧ 47 ∉ b := by
  unfold aroundB
  rw [fromB_iff]
  constructor
  · rintro ⟨j, _, h2, h3⟩
    have := (atB_iff (by omega)).1 h3
    exact ⟨_, _, this⟩
  · rintro ⟨a, b, rfl, ha, hb⟩
    refine ⟨a.length, Nat.zero_le _, by simp; omega, (atB_iff (by simp)).2 ?_⟩
    have e1 : (a ++ p ++ b).take a.length = a := by rw [List.append_assoc, List.take_left]
    have e2 : (a ++ p ++ b).drop (a.length + p.length) = b := by
      rw [show a.length + p.length = (a ++ p).length by simp, List.drop_left]
    rw [e1, e2]
    exact ⟨rfl, ha, hb⟩
/- the statement's parts -/
theorem law_all (s : List UInt8) : matB [42] s = true := (matB_iff _ _).2 (mat_any s)
theorem law_flat (s : List UInt8) : matB [37] s = !Lib.contains s [47] := by
  rw [Bool.eq_iff_iff, matB_iff, mat_flat, has_one]; simp
theorem law_self {p s : List UInt8} (h : Lib.containsAny p [42, 37] = false) : matB p s = (p == s) := by
  rw [Bool.eq_iff_iff, matB_iff, mat_bare p s (bare_of h), beq_iff_eq]
theorem law_begin {p s : List UInt8} (h : Lib.containsAny p [42, 37] = false) : matB (p ++ [42]) s = Lib.hasPrefix s p := by
  rw [Bool.eq_iff_iff, matB_iff, mat_begin p s (bare_of h)]
  unfold Lib.hasPrefix
  exact List.isPrefixOf_iff_prefix.symm
theorem law_more {p s : List UInt8} (t : List UInt8) (h : matB p s = true) : matB (p ++ [42]) (s ++ t) = true := (matB_iff _ _).2 (mat_more t ((matB_iff _ _).1 h))
theorem law_ahead {p s : List UInt8} (t : List UInt8) (h : matB p s = true) : matB (42 :: p) (t ++ s) = true := (matB_iff _ _).2 (mat_ahead t ((matB_iff _ _).1 h))
theorem law_level {p s t : List UInt8} (h : matB p s = true) (ht : Lib.contains t [47] = false) : matB (p ++ [37]) (s ++ t) = true := by
  rw [has_one, decide_eq_false_iff_not] at ht
  exact (matB_iff _ _).2 (mat_level ((matB_iff _ _).1 h) ht)
theorem law_around {p s : List UInt8} (h : Lib.containsAny p [42, 37] = false) : matB (37 :: (p ++ [37])) s = (Lib.contains s p && aroundB p s) := by
  rw [Bool.eq_iff_iff, matB_iff, mat_around p s (bare_of h), Bool.and_eq_true, around_iff, has_text]
  exact ⟨fun ⟨a, b, e, h1, h2⟩ => ⟨⟨a, b, e⟩, a, b, e, h1, h2⟩, fun h => h.2⟩
end Go.Proofs.YtnhcccakgkoggaaGreatDoor
