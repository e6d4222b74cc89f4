/- Plain laws of patterns: * stands for any letters, % for any but /. No program in sight; no condition beyond those each names. -/
import Derived.Lib.IndexMore
namespace Go.Proofs.YtnhcccakgkoggaaGreatDoor

/-- as a pattern asks; the pattern's letters the other way round -/
def matR : List UInt8 → List UInt8 → Prop
  | [], s => s = []
  | c :: p, s => if c = 42 then ∃ k, k ≤ s.length ∧ matR p (s.take k) else if c = 37 then ∃ k, k ≤ s.length ∧ matR p (s.take k) ∧ 47 ∉ s.drop k else ∃ t, s = t ++ [c] ∧ matR p t
def Mat (p s : List UInt8) : Prop := matR p.reverse s
theorem mat_nil (s : List UInt8) : Mat [] s ↔ s = [] := Iff.rfl
theorem mat_star (p s : List UInt8) : Mat (p ++ [42]) s ↔ ∃ a b, s = a ++ b ∧ Mat p a := by
  unfold Mat
  rw [List.reverse_append]
  show matR (42 :: p.reverse) s ↔ _
  rw [matR, if_pos rfl]
  constructor
  · rintro ⟨k, _, h⟩; exact ⟨s.take k, s.drop k, (List.take_append_drop k s).symm, h⟩
  · rintro ⟨a, b, rfl, h⟩; exact ⟨a.length, by simp, by simpa using h⟩
theorem mat_most (p s : List UInt8) : Mat (p ++ [37]) s ↔ ∃ a b, s = a ++ b ∧ Mat p a ∧ 47 ∉ b := by
  unfold Mat
  rw [List.reverse_append]
  show matR (37 :: p.reverse) s ↔ _
  rw [matR, if_neg (by decide), if_pos rfl]
  constructor
  · rintro ⟨k, _, h, h2⟩; exact ⟨s.take k, s.drop k, (List.take_append_drop k s).symm, h, h2⟩
  · rintro ⟨a, b, rfl, h, h2⟩; exact ⟨a.length, by simp, by simpa using h, by simpa using h2⟩
theorem mat_one (p s : List UInt8) (c : UInt8) (h1 : c ≠ 42) (h2 : c ≠ 37) : Mat (p ++ [c]) s ↔ ∃ t, s = t ++ [c] ∧ Mat p t := by
  unfold Mat
  rw [List.reverse_append]
  show matR (c :: p.reverse) s ↔ _
  rw [matR, if_neg h1, if_neg h2]
/-- a pattern in two -/
theorem mat_append (p : List UInt8) : ∀ (q s : List UInt8), Mat (p ++ q) s ↔ ∃ a b, s = a ++ b ∧ Mat p a ∧ Mat q b := by
  intro q
  induction hn : q.length generalizing q with
  | zero =>
    intro s
    have : q = [] := List.eq_nil_of_length_eq_zero hn
    subst this
    rw [List.append_nil]
    constructor
    · intro h; exact ⟨s, [], by simp, h, rfl⟩
    · rintro ⟨a, b, rfl, h, hb⟩
      rw [mat_nil] at hb; subst hb; simpa using h
  | succ n ih =>
    intro s
    obtain ⟨q, c, rfl⟩ : ∃ q' c, q = q' ++ [c] := by
      rcases List.eq_nil_or_concat q with rfl | ⟨t, x, h⟩
      · simp at hn
      · exact ⟨t, x, by simpa using h⟩
    have hq : q.length = n := by simpa using hn
    have ih := ih q hq
    rw [← List.append_assoc]
    by_cases h1 : c = 42
    · subst h1
      rw [mat_star]
      constructor
      · rintro ⟨a, b, rfl, h⟩
        obtain ⟨x, y, rfl, hx, hy⟩ := (ih a).1 h
        exact ⟨x, y ++ b, by simp, hx, (mat_star _ _).2 ⟨y, b, rfl, hy⟩⟩
      · rintro ⟨a, b, rfl, ha, hb⟩
        obtain ⟨x, y, rfl, hx⟩ := (mat_star _ _).1 hb
        exact ⟨a ++ x, y, by simp, (ih _).2 ⟨a, x, rfl, ha, hx⟩⟩
    · by_cases h2 : c = 37
      · subst h2
        rw [mat_most]
        constructor
        · rintro ⟨a, b, rfl, h, hn⟩
          obtain ⟨x, y, rfl, hx, hy⟩ := (ih a).1 h
          exact ⟨x, y ++ b, by simp, hx, (mat_most _ _).2 ⟨y, b, rfl, hy, hn⟩⟩
        · rintro ⟨a, b, rfl, ha, hb⟩
          obtain ⟨x, y, rfl, hx, hn⟩ := (mat_most _ _).1 hb
          exact ⟨a ++ x, y, by simp, (ih _).2 ⟨a, x, rfl, ha, hx⟩, hn⟩
      · rw [mat_one _ _ _ h1 h2]
        constructor
        · rintro ⟨t, rfl, h⟩
          obtain ⟨x, y, rfl, hx, hy⟩ := (ih t).1 h
          exact ⟨x, y ++ [c], by simp, hx, (mat_one _ _ _ h1 h2).2 ⟨y, rfl, hy⟩⟩
        · rintro ⟨a, b, rfl, ha, hb⟩
          obtain ⟨x, rfl, hx⟩ := (mat_one _ _ _ h1 h2).1 hb
          exact ⟨a ++ x, by simp, (ih _).2 ⟨a, x, rfl, ha, hx⟩⟩
/-- neither * nor % -/
def Bare (p : List UInt8) : Prop := ∀ c ∈ p, c ≠ 42 ∧ c ≠ 37
theorem mat_bare (p : List UInt8) : ∀ s, Bare p → (Mat p s ↔ p = s) := by
  induction hn : p.length generalizing p with
  | zero =>
    intro s _
    have : p = [] := List.eq_nil_of_length_eq_zero hn
    subst this
    rw [mat_nil]; exact eq_comm
  | succ n ih =>
    intro s hb
    obtain ⟨p, c, rfl⟩ : ∃ q' c, p = q' ++ [c] := by
      rcases List.eq_nil_or_concat p with rfl | ⟨t, x, h⟩
      · simp at hn
      · exact ⟨t, x, by simpa using h⟩
    have hc := hb c (by simp)
    rw [mat_one _ _ _ hc.1 hc.2]
    have ih := fun t => ih p (by simpa using hn) t fun x hx => hb x (by simp [hx])
    constructor
    · rintro ⟨t, rfl, h⟩; rw [(ih t).1 h]
    · rintro rfl; exact ⟨p, rfl, (ih p).2 rfl⟩
theorem mat_any (s : List UInt8) : Mat [42] s := (mat_star [] s).2 ⟨[], s, rfl, rfl⟩
theorem mat_flat (s : List UInt8) : Mat [37] s ↔ 47 ∉ s := by
  rw [show [37] = ([] : List UInt8) ++ [37] from rfl, mat_most]
  constructor
  · rintro ⟨a, b, rfl, ha, hb⟩; rw [mat_nil] at ha; subst ha; simpa using hb
  · intro h; exact ⟨[], s, rfl, rfl, h⟩
theorem mat_begin (p s : List UInt8) (h : Bare p) : Mat (p ++ [42]) s ↔ p <+: s := by
  rw [mat_star]
  constructor
  · rintro ⟨a, b, rfl, ha⟩; rw [(mat_bare p a h).1 ha]; exact List.prefix_append _ _
  · rintro ⟨b, rfl⟩; exact ⟨p, b, rfl, (mat_bare p p h).2 rfl⟩
theorem mat_more {p s : List UInt8} (t : List UInt8) (h : Mat p s) : Mat (p ++ [42]) (s ++ t) := (mat_star _ _).2 ⟨s, t, rfl, h⟩
theorem mat_ahead {p s : List UInt8} (t : List UInt8) (h : Mat p s) : Mat (42 :: p) (t ++ s) := (mat_append [42] p (t ++ s)).2 ⟨t, s, rfl, mat_any t, h⟩
theorem mat_level {p s t : List UInt8} (h : Mat p s) (ht : 47 ∉ t) : Mat (p ++ [37]) (s ++ t) := (mat_most _ _).2 ⟨s, t, rfl, h, ht⟩
theorem mat_around (p s : List UInt8) (h : Bare p) : Mat (37 :: (p ++ [37])) s ↔ ∃ a b, s = a ++ p ++ b ∧ 47 ∉ a ∧ 47 ∉ b := by
  rw [show (37 :: (p ++ [37]) : List UInt8) = ([37] ++ p) ++ [37] from rfl, mat_most]
  constructor
  · rintro ⟨x, b, rfl, hx, hb⟩
    obtain ⟨a, y, rfl, ha, hy⟩ := (mat_append [37] p x).1 hx
    rw [← (mat_bare p y h).1 hy]
    exact ⟨a, b, rfl, (mat_flat a).1 ha, hb⟩
  · rintro ⟨a, b, rfl, ha, hb⟩
    exact ⟨a ++ p, b, rfl, (mat_append [37] p _).2 ⟨a, p, rfl, (mat_flat a).2 ha, (mat_bare p p h).2 rfl⟩, hb⟩

/- the table: which beginnings of the name a beginning of the pattern may stand for -/
/-- one row: of a pattern's beginning, for each beginning of the name -/
def RowOf (p s : List UInt8) (l : List Bool) : Prop := l.length = s.length + 1 ∧ ∀ k, k ≤ s.length → (l[k]? = some true ↔ Mat p (s.take k))
theorem row_first (s : List UInt8) : RowOf [] s (true :: List.replicate s.length false) := by
  refine ⟨by simp, fun k hk => ?_⟩
  rw [mat_nil]
  cases k with
  | zero => simp
  | succ k =>
    rw [List.getElem?_cons_succ, List.getElem?_replicate]
    constructor
    · intro h; split at h <;> simp at h
    · intro h
      have := congrArg List.length h
      rw [List.length_take, List.length_nil] at this
      omega
theorem row_last {p s : List UInt8} {l : List Bool} (h : RowOf p s l) : l[s.length]? = some true ↔ Mat p s := by
  have := h.2 s.length (Nat.le_refl _)
  rwa [List.take_length] at this
/-- the next row's letter at a place -/
def cellF (p s : List UInt8) (c : UInt8) (l n : List Bool) (k : Nat) : Bool :=
  if c = 42 then (l.take (k + 1)).contains true
  else if c = 37 then l.getD k false || (decide (0 < k) && (n.getD (k - 1) false && !(s.getD (k - 1) 0 == 47)))
  else decide (0 < k) && (l.getD (k - 1) false && s.getD (k - 1) 0 == c)
theorem getD_true (l : List Bool) (k : Nat) : l.getD k false = true ↔ l[k]? = some true := by
  rw [List.getD_eq_getElem?_getD]
  cases l[k]? with
  | none => simp
  | some b => simp
theorem take_succ_snoc {s : List UInt8} {k : Nat} (h : k < s.length) : s.take (k + 1) = s.take k ++ [s.getD k 0] := by
  rw [List.take_succ_eq_append_getElem h, List.getD_eq_getElem?_getD, List.getElem?_eq_getElem h]; rfl
theorem cell_right {p s : List UInt8} {c : UInt8} {l n : List Bool} {k : Nat} (h : RowOf p s l) (hk : k ≤ s.length) (hn : ∀ j, j < k → (n[j]? = some true ↔ Mat (p ++ [c]) (s.take j))) : cellF p s c l n k = true ↔ Mat (p ++ [c]) (s.take k) := by
  unfold cellF
  by_cases h1 : c = 42
  · subst h1
    rw [if_pos rfl, mat_star, List.contains_iff_mem]
    constructor
    · intro hm
      obtain ⟨j, hj⟩ := List.mem_iff_getElem?.1 hm
      have hjk : j < k + 1 := by have := (List.getElem?_eq_some_iff.1 hj).1; rw [List.length_take] at this; omega
      rw [List.getElem?_take_of_lt hjk] at hj
      refine ⟨s.take j, (s.take k).drop j, ?_, (h.2 j (by omega)).1 hj⟩
      have := List.take_append_drop j (s.take k)
      rw [List.take_take, Nat.min_eq_left (by omega)] at this
      exact this.symm
    · rintro ⟨a, b, hab, ha⟩
      have hl := congrArg List.length hab
      rw [List.length_take, List.length_append] at hl
      have hla : a.length ≤ k := by omega
      have e : a = s.take a.length := by
        have := congrArg (List.take a.length) hab
        rw [List.take_take, List.take_left, Nat.min_eq_left hla] at this
        exact this.symm
      have := (h.2 a.length (by omega)).2 (by rw [← e]; exact ha)
      exact List.mem_iff_getElem?.2 ⟨a.length, by rw [List.getElem?_take_of_lt (by omega)]; exact this⟩
  · rw [if_neg h1]
    by_cases h2 : c = 37
    · subst h2
      rw [if_pos rfl, Bool.or_eq_true, getD_true, mat_most]
      cases k with
      | zero =>
        simp only [Nat.lt_irrefl, decide_false, Bool.false_and, Bool.false_eq_true, or_false]
        rw [h.2 0 (Nat.zero_le _)]
        simp only [List.take_zero]
        constructor
        · intro hm; exact ⟨[], [], rfl, hm, by simp⟩
        · rintro ⟨a, b, hab, ha, _⟩
          obtain ⟨rfl, rfl⟩ := List.append_eq_nil_iff.1 hab.symm
          exact ha
      | succ k =>
        rw [decide_eq_true (Nat.succ_pos k), Bool.true_and, Bool.and_eq_true, Nat.add_sub_cancel, getD_true, hn k (Nat.lt_succ_self k), h.2 (k + 1) hk, Bool.not_eq_true', beq_eq_false_iff_ne, mat_most, take_succ_snoc (by omega)]
        constructor
        · rintro (hm | ⟨⟨a, b, hab, ha, hb⟩, hc⟩)
          · exact ⟨_, [], by simp, hm, by simp⟩
          · rw [hab]
            refine ⟨a, b ++ [s.getD k 0], by simp, ha, ?_⟩
            intro hm
            rcases List.mem_append.1 hm with h' | h'
            · exact hb h'
            · rw [List.mem_singleton] at h'; exact hc h'.symm
        · rintro ⟨a, b, hab, ha, hb⟩
          rcases List.eq_nil_or_concat b with rfl | ⟨t, x, rfl⟩
          · left; rw [hab]; simpa using ha
          · right
            rw [List.concat_eq_append, ← List.append_assoc] at hab
            obtain ⟨e1, e2⟩ := List.append_inj' hab rfl
            have hx : s.getD k 0 = x := by simpa using e2
            rw [List.concat_eq_append] at hb
            exact ⟨⟨a, t, e1, ha, fun hm => hb (List.mem_append_left _ hm)⟩, fun e => hb (by rw [← hx, e]; simp)⟩
    · rw [if_neg h2, mat_one _ _ _ h1 h2]
      cases k with
      | zero =>
        simp only [Nat.lt_irrefl, decide_false, Bool.false_and, Bool.false_eq_true, false_iff, List.take_zero]
        rintro ⟨t, ht, _⟩
        simp at ht
      | succ k =>
        rw [decide_eq_true (Nat.succ_pos k), Bool.true_and, Bool.and_eq_true, Nat.add_sub_cancel, getD_true, h.2 k (by omega), beq_iff_eq, take_succ_snoc (by omega)]
        constructor
        · rintro ⟨hm, hc⟩; exact ⟨_, by rw [hc], hm⟩
        · rintro ⟨t, ht, hm⟩
          obtain ⟨e1, e2⟩ := List.append_inj' ht rfl
          exact ⟨by rw [e1]; exact hm, by simpa using e2⟩
end Go.Proofs.YtnhcccakgkoggaaGreatDoor
