/- Plain laws of sets of numbers: read, written, what is one of them, the least set of some numbers. No program in sight; no condition beyond those each names. -/
import Derived.Test.YtgblgbhfgiajiaaGreatDoorPDigits
import Derived.Lib.Join
namespace Go.Proofs.YtgblgbhfgiajiaaGreatDoor

/-- numbers from one to another one; 0: the greatest one -/
abbrev Rg := Int × Int
/-- a number of a set -/
def oneF (s : List UInt8) (v : Int) : Option Int := if 1 ≤ v ∧ v ≤ 2147483647 ∧ Lib.itoa v = s then some v else none
def numS (s : List UInt8) : Option Int :=
  if s = [42] then some 0 else match Lib.atoiAll s with
    | .ok v => oneF s v
    | _ => none
/-- what stands between commas -/
def commas : List UInt8 → List (List UInt8)
  | [] => [[]]
  | c :: s => if c = 44 then [] :: commas s else match commas s with
    | h :: t => (c :: h) :: t
    | [] => [[c]]
theorem commas_ne (s : List UInt8) : commas s ≠ [] := by
  cases s with
  | nil => simp [commas]
  | cons c s =>
    unfold commas
    split
    · simp
    · split <;> simp
theorem commas_none : ∀ {s : List UInt8}, 44 ∉ s → commas s = [s]
  | [], _ => rfl
  | c :: s, h => by
    have ih := commas_none (s := s) fun hm => h (List.mem_cons_of_mem _ hm)
    rw [commas, if_neg (by rintro rfl; exact h (List.mem_cons_self ..)), ih]
theorem commas_cut : ∀ (a s : List UInt8), 44 ∉ a → commas (a ++ 44 :: s) = a :: commas s
  | [], s, _ => by rw [List.nil_append, commas, if_pos rfl]
  | c :: a, s, h => by
    have ih := commas_cut a s fun hm => h (List.mem_cons_of_mem _ hm)
    rw [List.cons_append, commas, if_neg (by rintro rfl; exact h (List.mem_cons_self ..)), ih]
/-- where a byte stands first -/
theorem index_byte (s : List UInt8) (c : UInt8) : (Lib.index s [c] = -1 ∧ c ∉ s) ∨ ∃ i : Nat, Lib.index s [c] = i ∧ i < s.length ∧ s = s.take i ++ c :: s.drop (i + 1) ∧ c ∉ s.take i := by
  rcases Lib.index_spec s [c] with ⟨h1, h2⟩ | ⟨i, h1, h2, h3, h4⟩
  · refine Or.inl ⟨h1, fun hm => ?_⟩
    obtain ⟨i, hi⟩ := List.mem_iff_getElem?.1 hm
    have hl := (List.getElem?_eq_some_iff.1 hi).1
    have := h2 i (by omega)
    unfold Lib.occAt at this
    rw [List.drop_eq_getElem_cons hl, List.isPrefixOf_cons_cons, (List.getElem?_eq_some_iff.1 hi).2] at this
    simp at this
  · have hr := Lib.index_room s [c] (by omega)
    have hl : i < s.length := by simp at hr; omega
    refine Or.inr ⟨i, h1, hl, ?_, fun hm => ?_⟩
    · have hc : s[i] = c := by
        unfold Lib.occAt at h3
        rw [List.drop_eq_getElem_cons hl, List.isPrefixOf_cons_cons, Bool.and_eq_true, beq_iff_eq] at h3
        exact h3.1.symm
      conv => lhs; rw [← List.take_append_drop i s, List.drop_eq_getElem_cons hl, hc]
    · obtain ⟨j, hj⟩ := List.mem_iff_getElem?.1 hm
      have hjl := (List.getElem?_eq_some_iff.1 hj).1
      rw [List.length_take] at hjl
      rw [List.getElem?_take_of_lt (by omega)] at hj
      have := h4 j (by omega)
      unfold Lib.occAt at this
      rw [List.drop_eq_getElem_cons (by omega), List.isPrefixOf_cons_cons, (List.getElem?_eq_some_iff.1 hj).2] at this
      simp at this
theorem commas_last {s : List UInt8} (h : Lib.index s [44] < 0) : commas s = [s] := by
  rcases index_byte s 44 with ⟨_, h2⟩ | ⟨i, h1, _⟩
  · exact commas_none h2
  · omega
theorem commas_next {s : List UInt8} {i : Nat} (h : Lib.index s [44] = (i : Int)) : commas s = s.take i :: commas (s.drop (i + 1)) := by
  rcases index_byte s 44 with ⟨h1, _⟩ | ⟨j, h1, _, h3, h4⟩
  · omega
  · obtain rfl : j = i := by omega
    conv => lhs; rw [h3]
    exact commas_cut _ _ h4
/-- numbers, or two with : between -/
def pairF (t : List UInt8) : Option Rg :=
  if Lib.index t [58] < 0 then (match numS t with | some x => some (x, x) | none => none)
  else match numS (t.take (Lib.index t [58]).toNat), numS (t.drop ((Lib.index t [58]).toNat + 1)) with
    | some x, some y => some (x, y)
    | _, _ => none
def setsF : List (List UInt8) → List Rg → Except Nat (List Rg)
  | [], acc => .ok acc
  | t :: r, acc => match pairF t with
    | none => .error 3
    | some p => if acc.length = 20 then .error 4 else setsF r (acc ++ [p])
def parseS (s : List UInt8) : Except Nat (List Rg) := setsF (commas s) []
/-- ranges as they may be -/
def okN (n : Int) : Bool := decide (0 ≤ n) && decide (n ≤ 2147483647)
def rightS (l : List Rg) : Bool := decide (1 ≤ l.length) && (decide (l.length ≤ 20) && !(l.any fun r => !okN r.1 || !okN r.2))
def textN (n : Int) : List UInt8 := if n = 0 then [42] else Lib.itoa n
def textR (r : Rg) : List UInt8 := if r.2 = r.1 then textN r.1 else textN r.1 ++ 58 :: textN r.2
def printS (l : List Rg) : List UInt8 := Lib.join (l.map textR) [44]
theorem num_text {n : Int} (h : okN n = true) : numS (textN n) = some n := by
  unfold okN at h
  rw [Bool.and_eq_true, decide_eq_true_eq, decide_eq_true_eq] at h
  unfold textN
  by_cases h0 : n = 0
  · subst h0; rfl
  · rw [if_neg h0]
    obtain ⟨m, rfl⟩ : ∃ m : Nat, n = (m : Int) := ⟨n.toNat, by omega⟩
    rw [itoa_nat]
    unfold numS
    have hne : Lib.decDigits m ≠ [42] := by
      intro e
      have := dec_digits m 42 (by rw [e]; simp)
      revert this; decide
    rw [if_neg hne, atoi_itoa m (by omega)]
    dsimp only
    unfold oneF
    rw [if_pos ⟨by omega, by omega, itoa_nat m⟩]
theorem text_mem {n : Int} (h : okN n = true) : ∀ c ∈ textN n, c ≠ 44 ∧ c ≠ 58 := by
  unfold okN at h
  rw [Bool.and_eq_true, decide_eq_true_eq, decide_eq_true_eq] at h
  unfold textN
  by_cases h0 : n = 0
  · subst h0
    intro c hc
    rw [if_pos rfl, List.mem_singleton] at hc
    subst hc; decide
  · rw [if_neg h0]
    obtain ⟨m, rfl⟩ : ∃ m : Nat, n = (m : Int) := ⟨n.toNat, by omega⟩
    rw [itoa_nat]
    intro c hc
    have := dec_digits m c hc
    constructor <;> (rintro rfl; revert this; decide)
theorem textR_comma {r : Rg} (h1 : okN r.1 = true) (h2 : okN r.2 = true) : 44 ∉ textR r := by
  unfold textR
  intro hm
  split at hm
  · exact (text_mem h1 _ hm).1 rfl
  · rcases List.mem_append.1 hm with h | h
    · exact (text_mem h1 _ h).1 rfl
    · rcases List.mem_cons.1 h with h | h
      · cases h
      · exact (text_mem h2 _ h).1 rfl
theorem index_at {a b : List UInt8} {c : UInt8} (h : c ∉ a) : Lib.index (a ++ c :: b) [c] = (a.length : Int) := by
  rcases index_byte (a ++ c :: b) c with ⟨_, h2⟩ | ⟨i, h1, h2, h3, h4⟩
  · exact absurd (by simp) h2
  · rw [h1]
    congr 1
    rcases Nat.lt_trichotomy i a.length with hi | hi | hi
    · exfalso
      have e : (a ++ c :: b)[i]? = some c := by
        conv => lhs; rw [h3]
        rw [List.getElem?_append_right (by rw [List.length_take]; omega), List.length_take, Nat.min_eq_left (by omega), Nat.sub_self]; rfl
      rw [List.getElem?_append_left hi] at e
      exact h (List.mem_of_getElem? e)
    · exact hi
    · exfalso
      refine h4 (List.mem_of_getElem? (i := a.length) ?_)
      rw [List.getElem?_take_of_lt hi, List.getElem?_append_right (Nat.le_refl _), Nat.sub_self]; rfl
theorem pair_text {r : Rg} (h1 : okN r.1 = true) (h2 : okN r.2 = true) : pairF (textR r) = some r := by
  obtain ⟨x, y⟩ := r
  unfold textR
  dsimp only at h1 h2 ⊢
  by_cases h : y = x
  · subst h
    rw [if_pos rfl]
    unfold pairF
    have hi : Lib.index (textN y) [58] < 0 := by
      rcases index_byte (textN y) 58 with ⟨h3, _⟩ | ⟨i, _, hl, h3, _⟩
      · omega
      · exfalso
        exact (text_mem h1 58 (by rw [h3]; simp)).2 rfl
    rw [if_pos hi, num_text h1]
  · rw [if_neg h]
    unfold pairF
    have hi : Lib.index (textN x ++ 58 :: textN y) [58] = ((textN x).length : Int) := index_at fun hm => (text_mem h1 _ hm).2 rfl
    rw [hi, if_neg (by omega), Int.toNat_natCast, List.take_left, List.drop_append, List.drop_eq_nil_of_le (by omega), show (textN x).length + 1 - (textN x).length = 1 by omega]
    simp only [List.drop_succ_cons, List.drop_zero, List.nil_append]
    rw [num_text h1, num_text h2]
theorem commas_join : ∀ (l : List Rg), l ≠ [] → (∀ r ∈ l, okN r.1 = true ∧ okN r.2 = true) → commas (printS l) = l.map textR
  | [], h, _ => absurd rfl h
  | [r], _, h => by
    have hr := h r (List.mem_cons_self ..)
    unfold printS
    rw [List.map_cons, List.map_nil, Lib.join_one]
    exact commas_none (textR_comma hr.1 hr.2)
  | r :: x :: l, _, h => by
    have hr := h r (List.mem_cons_self ..)
    have ih := commas_join (x :: l) (by simp) fun y hy => h y (List.mem_cons_of_mem _ hy)
    have e : printS (r :: x :: l) = textR r ++ 44 :: printS (x :: l) := by
      unfold printS
      rw [List.map_cons, Lib.join_cons, List.map_cons, Lib.join_cons]
      rfl
    rw [e, commas_cut _ _ (textR_comma hr.1 hr.2), ih]; rfl
theorem sets_text : ∀ (l acc : List Rg), (∀ r ∈ l, okN r.1 = true ∧ okN r.2 = true) → acc.length + l.length ≤ 20 → setsF (l.map textR) acc = .ok (acc ++ l)
  | [], acc, _, _ => by simp [setsF]
  | r :: l, acc, h, hl => by
    have hr := h r (List.mem_cons_self ..)
    rw [List.length_cons] at hl
    rw [List.map_cons, setsF, pair_text hr.1 hr.2]
    dsimp only
    rw [if_neg (by omega), sets_text l (acc ++ [r]) (fun y hy => h y (List.mem_cons_of_mem _ hy)) (by rw [List.length_append, List.length_singleton]; omega)]
    simp
theorem right_parts {l : List Rg} (h : rightS l = true) : 1 ≤ l.length ∧ l.length ≤ 20 ∧ ∀ r ∈ l, okN r.1 = true ∧ okN r.2 = true := by
  unfold rightS at h
  rw [Bool.and_eq_true, Bool.and_eq_true, decide_eq_true_eq, decide_eq_true_eq, Bool.not_eq_true', List.any_eq_false] at h
  refine ⟨h.1, h.2.1, fun r hr => ?_⟩
  have := h.2.2 r hr
  simpa using this
/-- what a set is written as is that set -/
theorem parse_print {l : List Rg} (h : rightS l = true) : parseS (printS l) = .ok l := by
  obtain ⟨h1, h2, h3⟩ := right_parts h
  unfold parseS
  rw [commas_join l (by rintro rfl; simp at h1) h3, sets_text l [] h3 (by simpa using h2)]
  simp
/-- one of a range -/
def inR (n g : Int) (r : Rg) : Bool := decide (min (if r.1 = 0 then g else r.1) (if r.2 = 0 then g else r.2) ≤ n) && decide (n ≤ max (if r.1 = 0 then g else r.1) (if r.2 = 0 then g else r.2))
def hasS (l : List Rg) (n g : Int) : Bool := l.any (inR n g)
theorem has_append (l m : List Rg) (n g : Int) : hasS (l ++ m) n g = (hasS l n g || hasS m n g) := List.any_append
/-- the least set that has some numbers -/
def stepO (out : List Rg) (n : Int) : List Rg := match out.getLast? with
  | some p => if p.2 = n - 1 then out.dropLast ++ [(p.1, n)] else out ++ [(n, n)]
  | none => out ++ [(n, n)]
def ofS (l : List Int) : List Rg := l.foldl stepO []
theorem in_one (n k g : Int) (h : 1 ≤ n) : inR k g (n, n) = decide (k = n) := by
  unfold inR
  dsimp only
  rw [if_neg (by omega), Int.min_self, Int.max_self, Bool.eq_iff_iff, Bool.and_eq_true, decide_eq_true_eq, decide_eq_true_eq, decide_eq_true_eq]
  omega
/-- rising, from 1 on -/
def Rises (l : List Int) : Prop := l.Pairwise (· < ·) ∧ ∀ x ∈ l, 1 ≤ x
theorem of_has (g : Int) : ∀ (l done : List Int) (out : List Rg), Rises (done ++ l) → out.length ≤ done.length → (∀ k, hasS out k g = decide (k ∈ done)) → (∀ p, out.getLast? = some p → 1 ≤ p.1 ∧ p.1 ≤ p.2 ∧ done.getLast? = some p.2) →
    (∀ k, hasS (l.foldl stepO out) k g = decide (k ∈ done ++ l)) ∧ (l.foldl stepO out).length ≤ done.length + l.length
  | [], done, out, _, hl, h, _ => by simpa using ⟨h, hl⟩
  | n :: l, done, out, hr, hl, h, hlast => by
    have hn1 : 1 ≤ n := hr.2 n (by simp)
    have hlt : ∀ x ∈ done, x < n := fun x hx => (List.pairwise_append.1 hr.1).2.2 x hx n (List.mem_cons_self ..)
    have key : (stepO out n).length ≤ (done ++ [n]).length ∧ (∀ k, hasS (stepO out n) k g = decide (k ∈ done ++ [n])) ∧ ∀ p, (stepO out n).getLast? = some p → 1 ≤ p.1 ∧ p.1 ≤ p.2 ∧ (done ++ [n]).getLast? = some p.2 := by
      have hnew : ∀ k, hasS (out ++ [(n, n)]) k g = decide (k ∈ done ++ [n]) := by
        intro k
        rw [has_append, h k]
        unfold hasS
        rw [List.any_cons, List.any_nil, Bool.or_false, in_one n k g hn1, Bool.eq_iff_iff]
        simp
      have hnl : ∀ p, (out ++ [(n, n)]).getLast? = some p → 1 ≤ p.1 ∧ p.1 ≤ p.2 ∧ (done ++ [n]).getLast? = some p.2 := by
        intro p hp
        rw [List.getLast?_append] at hp
        simp at hp
        subst hp
        exact ⟨hn1, Int.le_refl _, by simp⟩
      unfold stepO
      cases hg : out.getLast? with
      | none => exact ⟨by simp; omega, hnew, hnl⟩
      | some p =>
        dsimp only
        split
        · rename_i hp
          obtain ⟨q1, q2, q3⟩ := hlast p hg
          have hne : out ≠ [] := by rintro rfl; cases hg
          have hout : out = out.dropLast ++ [p] := by
            have := List.dropLast_concat_getLast hne
            rw [List.getLast?_eq_some_getLast hne] at hg
            rw [← Option.some.inj hg]; exact this.symm
          refine ⟨?_, ?_, ?_⟩
          · have := congrArg List.length hout
            rw [List.length_append, List.length_singleton] at this ⊢
            rw [List.length_append, List.length_singleton]
            omega
          · intro k
            have h0 := h k
            rw [hout, has_append] at h0
            rw [has_append]
            unfold hasS at h0 ⊢
            rw [List.any_cons, List.any_nil, Bool.or_false] at h0 ⊢
            have hin : inR k g (p.1, n) = (inR k g p || decide (k = n)) := by
              unfold inR
              dsimp only
              rw [if_neg (by omega), if_neg (by omega), if_neg (by omega), Bool.eq_iff_iff]
              simp only [Bool.and_eq_true, Bool.or_eq_true, decide_eq_true_eq]
              omega
            rw [hin, ← Bool.or_assoc, h0, Bool.eq_iff_iff]
            simp
          · intro r hr'
            rw [List.getLast?_append] at hr'
            simp at hr'
            subst hr'
            exact ⟨q1, by dsimp only; omega, by simp⟩
        · exact ⟨by simp; omega, hnew, hnl⟩
    have := of_has g l (done ++ [n]) (stepO out n) (by rwa [List.append_assoc]) key.1 key.2.1 key.2.2
    rw [List.append_assoc] at this
    rw [List.foldl_cons]
    refine ⟨this.1, Nat.le_trans this.2 ?_⟩
    simp; omega
/-- of rising numbers just these are one of the least set, and it has no more ranges than these -/
theorem of_law {l : List Int} (h : Rises l) (k g : Int) : hasS (ofS l) k g = decide (k ∈ l) ∧ (ofS l).length ≤ l.length := by
  have := of_has g l [] [] (by simpa using h) (Nat.le_refl _) (fun k => by simp [hasS]) (fun p hp => by cases hp)
  exact ⟨by simpa [ofS] using this.1 k, by simpa [ofS] using this.2⟩
end Go.Proofs.YtgblgbhfgiajiaaGreatDoor
