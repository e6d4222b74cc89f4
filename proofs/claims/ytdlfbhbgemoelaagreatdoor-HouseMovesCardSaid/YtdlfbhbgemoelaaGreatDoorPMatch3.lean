/- Plain laws of patterns: * stands for any letters, % for any but /. No program in sight; no condition beyond those each names. A pattern's table, reckoned row by row: it says what Mat says. No program in sight; no condition beyond those each names. HouseMatch's plain law: what a pattern asks, in the words of the statement. No program in sight; no condition beyond those each names. -/
import Derived.Lib.IndexMore
import Derived.Test.YtdlfbhbgemoelaaGreatDoorPHead2
import Derived.Lib.IndexAny
import Derived.Lib.IndexLaws
namespace Go.Proofs.YtdlfbhbgemoelaaGreatDoor

/-- as a pattern asks; the pattern's letters the other way round -/
def matR : List UInt8 → List UInt8 → Prop
  | [], s => s = []
  | c :: p, s => if c = 42 then ∃ k, k ≤ s.length ∧ matR p (s.take k) else if c = 37 then ∃ k, k ≤ s.length ∧ matR p (s.take k) ∧ 47 ∉ s.drop k else ∃ t, s = t ++ [c] ∧ matR p t
def Mat (p s : List UInt8) : Prop := matR p.reverse s
theorem mat_nil (s : List UInt8) : Mat [] s ↔ s = [] := Iff.rfl
theorem mat_star (p s : List UInt8) : Mat (p ++ [42]) s ↔ ∃ a b, s = a ++ b ∧ Mat p a := by
  unfold Mat
  rw [List.reverse_append]
  show matR (42 :: p.reverse) s ↔ _
  rw [matR, if_pos rfl]
  constructor
  · rintro ⟨k, _, h⟩; exact ⟨s.take k, s.drop k, (List.take_append_drop k s).symm, h⟩
  · rintro ⟨a, b, rfl, h⟩; exact ⟨a.length, by simp, by simpa using h⟩
theorem mat_most (p s : List UInt8) : Mat (p ++ [37]) s ↔ ∃ a b, s = a ++ b ∧ Mat p a ∧ 47 ∉ b := by
  unfold Mat
  rw [List.reverse_append]
  show matR (37 :: p.reverse) s ↔ _
  rw [matR, if_neg (by decide), if_pos rfl]
  constructor
  · rintro ⟨k, _, h, h2⟩; exact ⟨s.take k, s.drop k, (List.take_append_drop k s).symm, h, h2⟩
  · rintro ⟨a, b, rfl, h, h2⟩; exact ⟨a.length, by simp, by simpa using h, by simpa using h2⟩
theorem mat_one (p s : List UInt8) (c : UInt8) (h1 : c ≠ 42) (h2 : c ≠ 37) : Mat (p ++ [c]) s ↔ ∃ t, s = t ++ [c] ∧ Mat p t := by
  unfold Mat
  rw [List.reverse_append]
  show matR (c :: p.reverse) s ↔ _
  rw [matR, if_neg h1, if_neg h2]
/-- a pattern in two -/
theorem mat_append (p : List UInt8) : ∀ (q s : List UInt8), Mat (p ++ q) s ↔ ∃ a b, s = a ++ b ∧ Mat p a ∧ Mat q b := by
  intro q
  induction hn : q.length generalizing q with
  | zero =>
    intro s
    have : q = [] := List.eq_nil_of_length_eq_zero hn
    subst this
    rw [List.append_nil]
    constructor
    · intro h; exact ⟨s, [], by simp, h, rfl⟩
    · rintro ⟨a, b, rfl, h, hb⟩
      rw [mat_nil] at hb; subst hb; simpa using h
  | succ n ih =>
    intro s
    obtain ⟨q, c, rfl⟩ : ∃ q' c, q = q' ++ [c] := by
      rcases List.eq_nil_or_concat q with rfl | ⟨t, x, h⟩
      · simp at hn
      · exact ⟨t, x, by simpa using h⟩
    have hq : q.length = n := by simpa using hn
    have ih := ih q hq
    rw [← List.append_assoc]
    by_cases h1 : c = 42
    · subst h1
      rw [mat_star]
      constructor
      · rintro ⟨a, b, rfl, h⟩
        obtain ⟨x, y, rfl, hx, hy⟩ := (ih a).1 h
        exact ⟨x, y ++ b, by simp, hx, (mat_star _ _).2 ⟨y, b, rfl, hy⟩⟩
      · rintro ⟨a, b, rfl, ha, hb⟩
        obtain ⟨x, y, rfl, hx⟩ := (mat_star _ _).1 hb
        exact ⟨a ++ x, y, by simp, (ih _).2 ⟨a, x, rfl, ha, hx⟩⟩
    · by_cases h2 : c = 37
      · subst h2
        rw [mat_most]
        constructor
        · rintro ⟨a, b, rfl, h, hn⟩
          obtain ⟨x, y, rfl, hx, hy⟩ := (ih a).1 h
          exact ⟨x, y ++ b, by simp, hx, (mat_most _ _).2 ⟨y, b, rfl, hy, hn⟩⟩
        · rintro ⟨a, b, rfl, ha, hb⟩
          obtain ⟨x, y, rfl, hx, hn⟩ := (mat_most _ _).1 hb
          exact ⟨a ++ x, y, by simp, (ih _).2 ⟨a, x, rfl, ha, hx⟩, hn⟩
      · rw [mat_one _ _ _ h1 h2]
        constructor
        · rintro ⟨t, rfl, h⟩
          obtain ⟨x, y, rfl, hx, hy⟩ := (ih t).1 h
          exact ⟨x, y ++ [c], by simp, hx, (mat_one _ _ _ h1 h2).2 ⟨y, rfl, hy⟩⟩
        · rintro ⟨a, b, rfl, ha, hb⟩
          obtain ⟨x, rfl, hx⟩ := (mat_one _ _ _ h1 h2).1 hb
          exact ⟨a ++ x, by simp, (ih _).2 ⟨a, x, rfl, ha, hx⟩⟩
/-- neither * nor % -/
def Bare (p : List UInt8) : Prop := ∀ c ∈ p, c ≠ 42 ∧ c ≠ 37
theorem mat_bare (p : List UInt8) : ∀ s, Bare p → (Mat p s ↔ p = s) := by
  induction hn : p.length generalizing p with
  | zero =>
    intro s _
    have : p = [] := List.eq_nil_of_length_eq_zero hn
    subst this
    rw [mat_nil]; exact eq_comm
  | succ n ih =>
    intro s hb
    obtain ⟨p, c, rfl⟩ : ∃ q' c, p = q' ++ [c] := by
      rcases List.eq_nil_or_concat p with rfl | ⟨t, x, h⟩
      · simp at hn
      · exact ⟨t, x, by simpa using h⟩
    have hc := hb c (by simp)
    rw [mat_one _ _ _ hc.1 hc.2]
    have ih := fun t => ih p (by simpa using hn) t fun x hx => hb x (by simp [hx])
    constructor
    · rintro ⟨t, rfl, h⟩; rw [(ih t).1 h]
    · rintro rfl; exact ⟨p, rfl, (ih p).2 rfl⟩
theorem mat_any (s : List UInt8) : Mat [42] s := (mat_star [] s).2 ⟨[], s, rfl, rfl⟩
theorem mat_flat (s : List UInt8) : Mat [37] s ↔ 47 ∉ s := by
  rw [show [37] = ([] : List UInt8) ++ [37] from rfl, mat_most]
  constructor
  · rintro ⟨a, b, rfl, ha, hb⟩; rw [mat_nil] at ha; subst ha; simpa using hb
  · intro h; exact ⟨[], s, rfl, rfl, h⟩
theorem mat_begin (p s : List UInt8) (h : Bare p) : Mat (p ++ [42]) s ↔ p <+: s := by
  rw [mat_star]
  constructor
  · rintro ⟨a, b, rfl, ha⟩; rw [(mat_bare p a h).1 ha]; exact List.prefix_append _ _
  · rintro ⟨b, rfl⟩; exact ⟨p, b, rfl, (mat_bare p p h).2 rfl⟩
theorem mat_more {p s : List UInt8} (t : List UInt8) (h : Mat p s) : Mat (p ++ [42]) (s ++ t) := (mat_star _ _).2 ⟨s, t, rfl, h⟩
theorem mat_ahead {p s : List UInt8} (t : List UInt8) (h : Mat p s) : Mat (42 :: p) (t ++ s) := (mat_append [42] p (t ++ s)).2 ⟨t, s, rfl, mat_any t, h⟩
theorem mat_level {p s t : List UInt8} (h : Mat p s) (ht : 47 ∉ t) : Mat (p ++ [37]) (s ++ t) := (mat_most _ _).2 ⟨s, t, rfl, h, ht⟩
theorem mat_around (p s : List UInt8) (h : Bare p) : Mat (37 :: (p ++ [37])) s ↔ ∃ a b, s = a ++ p ++ b ∧ 47 ∉ a ∧ 47 ∉ b := by
  rw [show (37 :: (p ++ [37]) : List UInt8) = ([37] ++ p) ++ [37] from rfl, mat_most]
  constructor
  · rintro ⟨x, b, rfl, hx, hb⟩
    obtain ⟨a, y, rfl, ha, hy⟩ := (mat_append [37] p x).1 hx
    rw [← (mat_bare p y h).1 hy]
    exact ⟨a, b, rfl, (mat_flat a).1 ha, hb⟩
  · rintro ⟨a, b, rfl, ha, hb⟩
    exact ⟨a ++ p, b, rfl, (mat_append [37] p _).2 ⟨a, p, rfl, (mat_flat a).2 ha, (mat_bare p p h).2 rfl⟩, hb⟩

/- the table: which beginnings of the name a beginning of the pattern may stand for -/
/-- one row: of a pattern's beginning, for each beginning of the name -/
def RowOf (p s : List UInt8) (l : List Bool) : Prop := l.length = s.length + 1 ∧ ∀ k, k ≤ s.length → (l[k]? = some true ↔ Mat p (s.take k))
theorem row_first (s : List UInt8) : RowOf [] s (true :: List.replicate s.length false) := by
  refine ⟨by simp, fun k hk => ?_⟩
  rw [mat_nil]
  cases k with
  | zero => simp
  | succ k =>
    rw [List.getElem?_cons_succ, List.getElem?_replicate]
    constructor
    · intro h; split at h <;> simp at h
    · intro h
      have := congrArg List.length h
      rw [List.length_take, List.length_nil] at this
      omega
theorem row_last {p s : List UInt8} {l : List Bool} (h : RowOf p s l) : l[s.length]? = some true ↔ Mat p s := by
  have := h.2 s.length (Nat.le_refl _)
  rwa [List.take_length] at this
/-- the next row's letter at a place -/
def cellF (p s : List UInt8) (c : UInt8) (l n : List Bool) (k : Nat) : Bool :=
  if c = 42 then (l.take (k + 1)).contains true
  else if c = 37 then l.getD k false || (decide (0 < k) && (n.getD (k - 1) false && !(s.getD (k - 1) 0 == 47)))
  else decide (0 < k) && (l.getD (k - 1) false && s.getD (k - 1) 0 == c)
theorem getD_true (l : List Bool) (k : Nat) : l.getD k false = true ↔ l[k]? = some true := by
  rw [List.getD_eq_getElem?_getD]
  cases l[k]? with
  | none => simp
  | some b => simp
theorem take_succ_snoc {s : List UInt8} {k : Nat} (h : k < s.length) : s.take (k + 1) = s.take k ++ [s.getD k 0] := by
  rw [List.take_succ_eq_append_getElem h, List.getD_eq_getElem?_getD, List.getElem?_eq_getElem h]; rfl
theorem cell_right {p s : List UInt8} {c : UInt8} {l n : List Bool} {k : Nat} (h : RowOf p s l) (hk : k ≤ s.length) (hn : ∀ j, j < k → (n[j]? = some true ↔ Mat (p ++ [c]) (s.take j))) : cellF p s c l n k = true ↔ Mat (p ++ [c]) (s.take k) := by
  unfold cellF
  by_cases h1 : c = 42
  · subst h1
    rw [if_pos rfl, mat_star, List.contains_iff_mem]
    constructor
    · intro hm
      obtain ⟨j, hj⟩ := List.mem_iff_getElem?.1 hm
      have hjk : j < k + 1 := by have := (List.getElem?_eq_some_iff.1 hj).1; rw [List.length_take] at this; omega
      rw [List.getElem?_take_of_lt hjk] at hj
      refine ⟨s.take j, (s.take k).drop j, ?_, (h.2 j (by omega)).1 hj⟩
      have := List.take_append_drop j (s.take k)
      rw [List.take_take, Nat.min_eq_left (by omega)] at this
      exact this.symm
    · rintro ⟨a, b, hab, ha⟩
      have hl := congrArg List.length hab
      rw [List.length_take, List.length_append] at hl
      have hla : a.length ≤ k := by omega
      have e : a = s.take a.length := by
        have := congrArg (List.take a.length) hab
        rw [List.take_take, List.take_left, Nat.min_eq_left hla] at this
        exact this.symm
      have := (h.2 a.length (by omega)).2 (by rw [← e]; exact ha)
      exact List.mem_iff_getElem?.2 ⟨a.length, by rw [List.getElem?_take_of_lt (by omega)]; exact this⟩
  · rw [if_neg h1]
    by_cases h2 : c = 37
    · subst h2
      rw [if_pos rfl, Bool.or_eq_true, getD_true, mat_most]
      cases k with
      | zero =>
        simp only [Nat.lt_irrefl, decide_false, Bool.false_and, Bool.false_eq_true, or_false]
        rw [h.2 0 (Nat.zero_le _)]
        simp only [List.take_zero]
        constructor
        · intro hm; exact ⟨[], [], rfl, hm, by simp⟩
        · rintro ⟨a, b, hab, ha, _⟩
          obtain ⟨rfl, rfl⟩ := List.append_eq_nil_iff.1 hab.symm
          exact ha
      | succ k =>
        rw [decide_eq_true (Nat.succ_pos k), Bool.true_and, Bool.and_eq_true, Nat.add_sub_cancel, getD_true, hn k (Nat.lt_succ_self k), h.2 (k + 1) hk, Bool.not_eq_true', beq_eq_false_iff_ne, mat_most, take_succ_snoc (by omega)]
        constructor
        · rintro (hm | ⟨⟨a, b, hab, ha, hb⟩, hc⟩)
          · exact ⟨_, [], by simp, hm, by simp⟩
          · rw [hab]
            refine ⟨a, b ++ [s.getD k 0], by simp, ha, ?_⟩
            intro hm
            rcases List.mem_append.1 hm with h' | h'
            · exact hb h'
            · rw [List.mem_singleton] at h'; exact hc h'.symm
        · rintro ⟨a, b, hab, ha, hb⟩
          rcases List.eq_nil_or_concat b with rfl | ⟨t, x, rfl⟩
          · left; rw [hab]; simpa using ha
          · right
            rw [List.concat_eq_append, ← List.append_assoc] at hab
            obtain ⟨e1, e2⟩ := List.append_inj' hab rfl
            have hx : s.getD k 0 = x := by simpa using e2
            rw [List.concat_eq_append] at hb
            exact ⟨⟨a, t, e1, ha, fun hm => hb (List.mem_append_left _ hm)⟩, fun e => hb (by rw [← hx, e]; simp)⟩
    · rw [if_neg h2, mat_one _ _ _ h1 h2]
      cases k with
      | zero =>
        simp only [Nat.lt_irrefl, decide_false, Bool.false_and, Bool.false_eq_true, false_iff, List.take_zero]
        rintro ⟨t, ht, _⟩
        simp at ht
      | succ k =>
        rw [decide_eq_true (Nat.succ_pos k), Bool.true_and, Bool.and_eq_true, Nat.add_sub_cancel, getD_true, h.2 k (by omega), beq_iff_eq, take_succ_snoc (by omega)]
        constructor
        · rintro ⟨hm, hc⟩; exact ⟨_, by rw [hc], hm⟩
        · rintro ⟨t, ht, hm⟩
          obtain ⟨e1, e2⟩ := List.append_inj' ht rfl
          exact ⟨by rw [e1]; exact hm, by simpa using e2⟩
end Go.Proofs.YtdlfbhbgemoelaaGreatDoor
namespace Go.Proofs.YtdlfbhbgemoelaaGreatDoor

/-- the next row's first letters -/
def nextTo (s : List UInt8) (c : UInt8) (l : List Bool) : Nat → List Bool
  | 0 => []
  | k + 1 => nextTo s c l k ++ [cellF [] s c l (nextTo s c l k) k]
theorem nextTo_len (s : List UInt8) (c : UInt8) (l : List Bool) : ∀ k, (nextTo s c l k).length = k
  | 0 => rfl
  | k + 1 => by rw [nextTo, List.length_append, nextTo_len s c l k]; rfl
def rowN (s : List UInt8) (l : List Bool) (c : UInt8) : List Bool := nextTo s c l (s.length + 1)
def rowsF (s p : List UInt8) : List Bool := p.foldl (rowN s) (true :: List.replicate s.length false)
theorem rowsF_snoc (s p : List UInt8) (c : UInt8) : rowsF s (p ++ [c]) = rowN s (rowsF s p) c := by unfold rowsF; rw [List.foldl_append]; rfl
theorem rowsF_len (s : List UInt8) (p : List UInt8) : (rowsF s p).length = s.length + 1 := by
  rcases List.eq_nil_or_concat p with rfl | ⟨q, c, h⟩
  · simp [rowsF]
  · rw [h, List.concat_eq_append, rowsF_snoc]; exact nextTo_len _ _ _ _
theorem nextTo_at {s : List UInt8} {c : UInt8} {l : List Bool} {j : Nat} : ∀ {k : Nat}, j < k → (nextTo s c l k)[j]? = some (cellF [] s c l (nextTo s c l j) j)
  | 0, h => absurd h (Nat.not_lt_zero _)
  | k + 1, h => by
    rw [nextTo]
    by_cases e : j = k
    · subst e
      rw [List.getElem?_append_right (by rw [nextTo_len]; exact Nat.le_refl _), nextTo_len, Nat.sub_self]; rfl
    · rw [List.getElem?_append_left (by rw [nextTo_len]; omega)]
      exact nextTo_at (by omega)
theorem row_next {s p : List UInt8} {c : UInt8} {l : List Bool} (h : RowOf p s l) : RowOf (p ++ [c]) s (rowN s l c) := by
  refine ⟨nextTo_len _ _ _ _, ?_⟩
  have key : ∀ k, k ≤ s.length → ∀ j, j ≤ k → ((rowN s l c)[j]? = some true ↔ Mat (p ++ [c]) (s.take j)) := by
    intro k
    induction k with
    | zero =>
      intro hk j hj
      obtain rfl : j = 0 := by omega
      unfold rowN
      rw [nextTo_at (by omega), Option.some.injEq]
      exact cell_right (p := p) (n := nextTo s c l 0) h (Nat.zero_le _) (fun j hj => absurd hj (Nat.not_lt_zero _))
    | succ k ih =>
      intro hk j hj
      by_cases e : j = k + 1
      · subst e
        unfold rowN
        rw [nextTo_at (by omega), Option.some.injEq]
        refine cell_right (p := p) h hk fun i hi => ?_
        have := ih (by omega) i (by omega)
        unfold rowN at this
        rw [nextTo_at (by omega)] at this ⊢
        exact this
      · exact ih (by omega) j (by omega)
  exact fun k hk => key k hk k (Nat.le_refl _)
theorem rows_right (s p : List UInt8) : RowOf p s (rowsF s p) := by
  induction hn : p.length generalizing p with
  | zero =>
    obtain rfl : p = [] := List.eq_nil_of_length_eq_zero hn
    exact row_first s
  | succ n ih =>
    rcases List.eq_nil_or_concat p with rfl | ⟨q, c, h⟩
    · simp at hn
    · rw [List.concat_eq_append] at h
      subst h
      rw [rowsF_snoc]
      exact row_next (ih q (by simpa using hn))
/-- is a name as a pattern asks? -/
def matB (p s : List UInt8) : Bool := (rowsF s p).getD s.length false
theorem matB_iff (p s : List UInt8) : matB p s = true ↔ Mat p s := by
  unfold matB
  rw [getD_true, row_last (rows_right s p)]
end Go.Proofs.YtdlfbhbgemoelaaGreatDoor
namespace Go.Proofs.YtdlfbhbgemoelaaGreatDoor

theorem has_text {s sub : List UInt8} : Lib.contains s sub = true ↔ ∃ a b, s = a ++ sub ++ b := by
  unfold Lib.contains
  rw [decide_eq_true_eq]
  rcases Lib.index_spec s sub with ⟨h1, h2⟩ | ⟨i, h1, h2, h3, _⟩
  · rw [h1]
    refine ⟨fun h => absurd h (by decide), fun ⟨a, b, e⟩ => ?_⟩
    have := h2 a.length (by rw [e]; simp)
    unfold Lib.occAt at this
    rw [e, List.append_assoc, List.drop_left] at this
    have h4 : sub.isPrefixOf (sub ++ b) = true := List.isPrefixOf_iff_prefix.2 (List.prefix_append _ _)
    rw [h4] at this
    cases this
  · rw [h1]
    refine ⟨fun _ => ?_, fun _ => Int.natCast_nonneg i⟩
    unfold Lib.occAt at h3
    obtain ⟨r, hr⟩ := List.isPrefixOf_iff_prefix.1 h3
    exact ⟨s.take i, r, by rw [List.append_assoc, hr, List.take_append_drop]⟩
theorem has_one {s : List UInt8} {c : UInt8} : Lib.contains s [c] = decide (c ∈ s) := by
  rw [Bool.eq_iff_iff, has_text, decide_eq_true_eq]
  constructor
  · rintro ⟨a, b, rfl⟩; simp
  · intro h
    obtain ⟨a, b, rfl⟩ := List.append_of_mem h
    exact ⟨a, b, by simp⟩
theorem bare_of {p : List UInt8} (h : Lib.containsAny p [42, 37] = false) : Bare p := fun c hc => by
  have := noAny h c hc
  simp only [List.contains_cons, List.contains_nil, Bool.or_false, Bool.or_eq_false_iff, beq_eq_false_iff_ne] at this
  exact this
/-- somewhere a text has another one, with no / ahead of it, and none behind -/
def atB (p s : List UInt8) (i : Nat) : Bool := ((s.drop i).take p.length == p) && (!Lib.contains (s.take i) [47] && !Lib.contains (s.drop (i + p.length)) [47])
/-- from a place on -/
def fromB (p s : List UInt8) : Nat → Nat → Bool
  | _, 0 => false
  | i, g + 1 => atB p s i || fromB p s (i + 1) g
def aroundB (p s : List UInt8) : Bool := fromB p s 0 (s.length + 1 - p.length)
theorem fromB_iff {p s : List UInt8} : ∀ {g i : Nat}, fromB p s i g = true ↔ ∃ j, i ≤ j ∧ j < i + g ∧ atB p s j = true
  | 0, i => by simp [fromB]; intro j h1 h2; omega
  | g + 1, i => by
    rw [fromB, Bool.or_eq_true, fromB_iff (g := g) (i := i + 1)]
    constructor
    · rintro (h | ⟨j, h1, h2, h3⟩)
      · exact ⟨i, Nat.le_refl _, by omega, h⟩
      · exact ⟨j, by omega, by omega, h3⟩
    · rintro ⟨j, h1, h2, h3⟩
      by_cases e : j = i
      · subst e; exact Or.inl h3
      · exact Or.inr ⟨j, by omega, by omega, h3⟩
theorem atB_iff {p s : List UInt8} {i : Nat} (h : i + p.length ≤ s.length) : atB p s i = true ↔ s = s.take i ++ p ++ s.drop (i + p.length) ∧ 47 ∉ s.take i ∧ 47 ∉ s.drop (i + p.length) := by
  unfold atB
  rw [Bool.and_eq_true, Bool.and_eq_true, has_one, has_one, beq_iff_eq, Bool.not_eq_true', Bool.not_eq_true', decide_eq_false_iff_not, decide_eq_false_iff_not]
  constructor
  · rintro ⟨h1, h2, h3⟩
    refine ⟨?_, h2, h3⟩
    have e1 := List.take_append_drop i s
    have e2 := List.take_append_drop p.length (s.drop i)
    rw [h1, List.drop_drop] at e2
    rw [List.append_assoc, e2, e1]
  · rintro ⟨h1, h2, h3⟩
    refine ⟨?_, h2, h3⟩
    have hl : (s.take i).length = i := by rw [List.length_take]; omega
    have e3 := congrArg (List.drop i) h1
    rw [List.append_assoc] at e3
    have e4 : (s.take i).drop i = [] := List.drop_of_length_le (by omega)
    have e5 : ∀ X : List UInt8, (s.take i ++ X).drop i = X := fun X => by rw [List.drop_append, e4, hl, Nat.sub_self]; simp
    rw [e5] at e3
    rw [e3, List.take_left]
theorem around_iff {p s : List UInt8} : aroundB p s = true ↔ ∃ a b, s = a ++ p ++ b ∧ 47 ∉ a ∧ 47 ∉ b := by
  unfold aroundB
  rw [fromB_iff]
  constructor
  · rintro ⟨j, _, h2, h3⟩
    have := (atB_iff (by omega)).1 h3
    exact ⟨_, _, this⟩
  · rintro ⟨a, b, rfl, ha, hb⟩
    refine ⟨a.length, Nat.zero_le _, by simp; omega, (atB_iff (by simp)).2 ?_⟩
    have e1 : (a ++ p ++ b).take a.length = a := by rw [List.append_assoc, List.take_left]
    have e2 : (a ++ p ++ b).drop (a.length + p.length) = b := by
      rw [show a.length + p.length = (a ++ p).length by simp, List.drop_left]
    rw [e1, e2]
    exact ⟨rfl, ha, hb⟩
/- the statement's parts -/
theorem law_all (s : List UInt8) : matB [42] s = true := (matB_iff _ _).2 (mat_any s)
theorem law_flat (s : List UInt8) : matB [37] s = !Lib.contains s [47] := by
  rw [Bool.eq_iff_iff, matB_iff, mat_flat, has_one]; simp
theorem law_self {p s : List UInt8} (h : Lib.containsAny p [42, 37] = false) : matB p s = (p == s) := by
  rw [Bool.eq_iff_iff, matB_iff, mat_bare p s (bare_of h), beq_iff_eq]
theorem law_begin {p s : List UInt8} (h : Lib.containsAny p [42, 37] = false) : matB (p ++ [42]) s = Lib.hasPrefix s p := by
  rw [Bool.eq_iff_iff, matB_iff, mat_begin p s (bare_of h)]
  unfold Lib.hasPrefix
  exact List.isPrefixOf_iff_prefix.symm
theorem law_more {p s : List UInt8} (t : List UInt8) (h : matB p s = true) : matB (p ++ [42]) (s ++ t) = true := (matB_iff _ _).2 (mat_more t ((matB_iff _ _).1 h))
theorem law_ahead {p s : List UInt8} (t : List UInt8) (h : matB p s = true) : matB (42 :: p) (t ++ s) = true := (matB_iff _ _).2 (mat_ahead t ((matB_iff _ _).1 h))
theorem law_level {p s t : List UInt8} (h : matB p s = true) (ht : Lib.contains t [47] = false) : matB (p ++ [37]) (s ++ t) = true := by
  rw [has_one, decide_eq_false_iff_not] at ht
  exact (matB_iff _ _).2 (mat_level ((matB_iff _ _).1 h) ht)
theorem law_around {p s : List UInt8} (h : Lib.containsAny p [42, 37] = false) : matB (37 :: (p ++ [37])) s = (Lib.contains s p && aroundB p s) := by
  rw [Bool.eq_iff_iff, matB_iff, mat_around p s (bare_of h), Bool.and_eq_true, around_iff, has_text]
  exact ⟨fun ⟨a, b, e, h1, h2⟩ => ⟨⟨a, b, e⟩, a, b, e, h1, h2⟩, fun h => h.2⟩
end Go.Proofs.YtdlfbhbgemoelaaGreatDoor
