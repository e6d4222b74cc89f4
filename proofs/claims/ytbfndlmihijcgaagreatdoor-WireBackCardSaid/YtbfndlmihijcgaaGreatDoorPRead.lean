/- Plain laws: what a command is written as is read as that command again. No program in sight; no condition beyond those each names. -/
import Derived.Test.YtbfndlmihijcgaaGreatDoorPParse
import Derived.Test.YtbfndlmihijcgaaGreatDoorPChunk
namespace Go.Proofs.YtbfndlmihijcgaaGreatDoor

/-- with \ ahead of " and \ -/
def escL (s : List UInt8) : List UInt8 := s.flatMap fun c => if c = 92 then [92, 92] else if c = 34 then [92, 34] else [c]
/-- bytes that may not stand in quotes -/
def rawB (s : List UInt8) : Bool := s.any fun c => decide (c.toNat < 32) || decide (126 < c.toNat)
/-- it may be a word -/
def wordB (s : List UInt8) : Bool := !s.isEmpty && s.all fun c => atomB c && !(c == 92)
def quotedL (s : List UInt8) : List UInt8 := 34 :: (escL s ++ [34])
def rawL (s : List UInt8) : List UInt8 := litL s.length ++ 13 :: 10 :: s
/-- how a text is said -/
def quoteF (s : List UInt8) : List UInt8 := if rawB s then rawL s else if wordB s then s else quotedL s
mutual
/-- how a part is written -/
def textF : ArgP → List UInt8
  | .mk k t l => if k = 3 then 40 :: (joinF l ++ [41]) else if k = 1 then t else if rawB t then rawL t else quotedL t
def joinF : List ArgP → List UInt8
  | [] => []
  | x :: l => textF x ++ tailF l
/-- parts, each with a blank ahead -/
def tailF : List ArgP → List UInt8
  | [] => []
  | x :: l => 32 :: (textF x ++ tailF l)
end
mutual
/-- how many parts there are, itself, too -/
def sizeA : ArgP → Nat
  | .mk _ _ l => 1 + sizeL l
def sizeL : List ArgP → Nat
  | [] => 0
  | x :: l => sizeA x + sizeL l
end
mutual
/-- parts as they are read, no deeper than so -/
def FitA : Nat → ArgP → Prop
  | d, .mk k t l => (k = 1 ∧ t ≠ [] ∧ (∀ c ∈ t, atomB c = true) ∧ l = []) ∨ (k = 2 ∧ l = []) ∨ (k = 3 ∧ t = [] ∧ FitL d l)
def FitL : Nat → List ArgP → Prop
  | _, [] => True
  | d, x :: l => (∃ e, d = e + 1 ∧ FitA e x) ∧ FitL d l
end
theorem sizeA_pos (x : ArgP) : 1 ≤ sizeA x := by cases x; unfold sizeA; omega

/- reading back: texts in quotes -/
theorem quo_esc : ∀ (s r : List UInt8) (i : Nat), (∀ c ∈ s, c ≠ 13 ∧ c ≠ 10 ∧ c ≠ 0) → quoL (escL s ++ 34 :: r) i = .ok (s, i + (escL s).length + 1)
  | [], r, i, _ => by simp [escL, quoL]
  | c :: s, r, i, h => by
    have hc := h c (List.mem_cons_self ..)
    have ih := fun j => quo_esc s r j fun x hx => h x (List.mem_cons_of_mem _ hx)
    by_cases h1 : c = 92
    · subst h1
      have e : escL (92 :: s) = 92 :: 92 :: escL s := rfl
      rw [e, List.cons_append, List.cons_append, quoL, if_pos (Or.inr rfl), ih (i + 2)]
      simp only [List.length_cons, Except.ok.injEq, Prod.mk.injEq, true_and]
      omega
    · by_cases h2 : c = 34
      · subst h2
        have e : escL (34 :: s) = 92 :: 34 :: escL s := rfl
        rw [e, List.cons_append, List.cons_append, quoL, if_pos (Or.inl rfl), ih (i + 2)]
        simp only [List.length_cons, Except.ok.injEq, Prod.mk.injEq, true_and]
        omega
      · have e : escL (c :: s) = c :: escL s := by simp [escL, h1, h2]
        rw [e, List.cons_append, quoL, if_neg (by simp [hc]), ih (i + 1)]
        · simp only [List.length_cons, Except.ok.injEq, Prod.mk.injEq, true_and]
          omega
        · exact h2
        · exact fun e _ => h1 e
        · exact fun d r e => absurd e h1
theorem drop_get {S q r : List UInt8} {a i : Nat} {c : UInt8} (h : S.drop a = q ++ r) (hc : q[i]? = some c) : S[a + i]? = some c := by
  have := congrArg (·[i]?) h
  simp only [List.getElem?_drop] at this
  rw [this, List.getElem?_append_left (List.getElem?_eq_some_iff.1 hc).1, hc]
theorem drop_len {S q r : List UInt8} {a : Nat} (h : S.drop a = q ++ r) (hq : 0 < q.length + r.length) : S.length = a + q.length + r.length := by
  have := congrArg List.length h
  rw [List.length_drop, List.length_append] at this
  omega
theorem body_drop {S q r : List UInt8} {a : Nat} (h : S.drop a = q ++ r) (hr : 2 ≤ r.length) : (bodyL S).drop a = q ++ r.take (r.length - 2) := by
  have hl := drop_len h (by omega)
  rw [bodyL, List.drop_take, h, List.take_append, List.take_of_length_le (by omega)]
  congr 2; omega
theorem body_get {S q r : List UInt8} {a i : Nat} {c : UInt8} (h : S.drop a = q ++ r) (hr : 2 ≤ r.length) (hc : q[i]? = some c) : (bodyL S)[a + i]? = some c := by
  have hl := drop_len h (by omega)
  have hi := (List.getElem?_eq_some_iff.1 hc).1
  rw [bodyL_at (by omega)]
  exact drop_get h hc
theorem drop_more {S q r : List UInt8} {a : Nat} (h : S.drop a = q ++ r) : S.drop (a + q.length) = r := by
  rw [← List.drop_drop, h, List.drop_left]
theorem arg_head {S : List UInt8} {f d a n : Nat} {c : UInt8} (hn : n + 1 ≤ 60) (hd : d ≤ 6) (hc : (bodyL S)[a]? = some c) : argF S (f + 1) d a n =
      if c = 34 then (match quoL ((bodyL S).drop (a + 1)) (a + 1) with
          | .error p => .error (3, p)
          | .ok (t, b) => .ok (.mk 2 t [], b, n + 1))
        else if c = 123 then (match bytF S a with
          | none => .error (3, a)
          | some (t, b) => .ok (.mk 2 t [], b, n + 1))
        else if c = 40 then listF S f d (a + 1) (n + 1) []
        else if wordL S a = [] then .error (3, a) else .ok (.mk 1 (wordL S a) [], a + (wordL S a).length, n + 1) := by
  rw [argF, if_neg (by omega), hc]
  rfl
theorem read_quoted {S s r : List UInt8} {f d a n : Nat} (h : S.drop a = quotedL s ++ r) (hr : 2 ≤ r.length) (hs : ∀ c ∈ s, c ≠ 13 ∧ c ≠ 10 ∧ c ≠ 0) (hn : n + 1 ≤ 60) (hd : d ≤ 6) :
    argF S (f + 1) d a n = .ok (.mk 2 s [], a + (quotedL s).length, n + 1) := by
  have hc : (bodyL S)[a]? = some 34 := body_get (i := 0) h hr rfl
  have hb := body_drop h hr
  have hb1 : (bodyL S).drop (a + 1) = escL s ++ 34 :: r.take (r.length - 2) := by
    rw [← List.drop_drop, hb]; simp [quotedL]
  rw [arg_head hn hd hc, if_pos rfl, hb1, quo_esc s _ _ hs]
  have hq : (quotedL s).length = (escL s).length + 2 := by simp [quotedL]
  rw [hq, show a + 1 + (escL s).length + 1 = a + ((escL s).length + 2) by omega]
theorem index_last : ∀ (l : List UInt8) (c : UInt8), c ∉ l → Lib.indexByte (l ++ [c]) c = (l.length : Int)
  | [], c, _ => by simp [Lib.indexByte]
  | x :: l, c, h => by
    have ih := index_last l c fun hm => h (List.mem_cons_of_mem _ hm)
    rw [List.cons_append, Lib.indexByte, if_neg (by rw [beq_iff_eq]; rintro rfl; exact h (List.mem_cons_self ..)), ih, if_neg (by rw [beq_iff_eq]; omega)]
    simp
theorem lit_close (n : Nat) : Lib.indexByte (litL n) 125 = ((litL n).length : Int) - 1 := by
  have := index_last (123 :: Lib.decDigits n) 125 (by
    intro h
    rcases List.mem_cons.1 h with h1 | h1
    · cases h1
    · have := dec_digits n _ h1; revert this; decide)
  rw [List.cons_append] at this
  rw [litL_len, litL, this]
  simp; omega
theorem read_raw {S s r : List UInt8} {f d a n : Nat} (h : S.drop a = rawL s ++ r) (hr : 2 ≤ r.length) (hs : s.length ≤ 1000000) (hn : n + 1 ≤ 60) (hd : d ≤ 6) :
    argF S (f + 1) d a n = .ok (.mk 2 s [], a + (rawL s).length, n + 1) := by
  have hc : (bodyL S)[a]? = some 123 := body_get (i := 0) h hr rfl
  have hl := drop_len h (by omega)
  have h2 : S.drop a = litL s.length ++ 13 :: 10 :: (s ++ r) := by rw [h, rawL]; simp
  have hi : Lib.index (S.drop a) [13, 10] = ((litL s.length).length : Int) := by rw [h2]; exact index_line _ _ (litL_13 _)
  have ht : (S.drop a).take (litL s.length).length = litL s.length := by rw [h2, List.take_left]
  have hlen : (rawL s).length = (litL s.length).length + 2 + s.length := by simp [rawL]; omega
  rw [arg_head hn hd hc, if_neg (by decide), if_pos rfl]
  have hb : bytF S a = some (s, a + (rawL s).length) := by
    unfold bytF
    rw [hi, if_neg (by omega), Int.toNat_natCast, ht, if_neg (by rw [lit_close]; simp)]
    have := lit_last [] s.length (by omega)
    rw [List.nil_append] at this
    rw [this]
    dsimp only
    rw [Int.toNat_natCast, if_neg (by omega)]
    have h3 : S.drop (a + (litL s.length).length + 2) = s ++ r := by
      rw [Nat.add_assoc, ← List.drop_drop, h2, ← List.drop_drop, List.drop_left]; rfl
    rw [h3, List.take_left, hlen]
    congr 2; omega
  rw [hb]
theorem word_at {S s r : List UInt8} {a : Nat} (h : S.drop a = s ++ r) (hr : 2 ≤ r.length) (hs : ∀ c ∈ s, atomB c = true) (hx : ∀ c, (bodyL S)[a + s.length]? = some c → atomB c = false) : wordL S a = s := by
  have hb := body_drop h hr
  rw [wordL, hb, List.takeWhile_append_of_pos hs]
  suffices h0 : (r.take (r.length - 2)).takeWhile atomB = [] by rw [h0, List.append_nil]
  cases ht : r.take (r.length - 2) with
  | nil => rfl
  | cons c t =>
    have : (bodyL S)[a + s.length]? = some c := by
      rw [← List.getElem?_drop, hb, List.getElem?_append_right (Nat.le_refl _), ht]; simp
    rw [List.takeWhile_cons_of_neg (by simp [hx c this])]
theorem atom_not {c : UInt8} (h : atomB c = true) : c ≠ 34 ∧ c ≠ 123 ∧ c ≠ 40 ∧ c ≠ 41 ∧ c ≠ 32 ∧ c ≠ 13 ∧ c ≠ 10 ∧ c ≠ 0 := by
  refine ⟨?_, ?_, ?_, ?_, ?_, ?_, ?_, ?_⟩ <;> (rintro rfl; revert h; decide)
theorem read_word {S s r : List UInt8} {f d a n : Nat} (h : S.drop a = s ++ r) (hr : 2 ≤ r.length) (h0 : s ≠ []) (hs : ∀ c ∈ s, atomB c = true) (hx : ∀ c, (bodyL S)[a + s.length]? = some c → atomB c = false) (hn : n + 1 ≤ 60) (hd : d ≤ 6) :
    argF S (f + 1) d a n = .ok (.mk 1 s [], a + s.length, n + 1) := by
  have hw := word_at h hr hs hx
  cases s with
  | nil => exact absurd rfl h0
  | cons c s =>
    have hc : (bodyL S)[a]? = some c := body_get (i := 0) h hr rfl
    have := atom_not (hs c (List.mem_cons_self ..))
    rw [arg_head hn hd hc, if_neg this.1, if_neg this.2.1, if_neg this.2.2.1, hw, if_neg (by simp)]
theorem rawB_no {s : List UInt8} (h : rawB s = false) : ∀ c ∈ s, c ≠ 13 ∧ c ≠ 10 ∧ c ≠ 0 := by
  intro c hc
  unfold rawB at h
  rw [List.any_eq_false] at h
  have := h c hc
  refine ⟨?_, ?_, ?_⟩ <;> (rintro rfl; exact this (by decide))
/-- what is behind a part is no letter of a word -/
theorem next_not {S : List UInt8} {x : UInt8} {r : List UInt8} {a : Nat} (h : S.drop a = x :: r) (hx : atomB x = false) : ∀ c, (bodyL S)[a]? = some c → atomB c = false := by
  intro c hc
  have h1 := (bodyL_get hc).2
  have h2 : S[a]? = some x := by
    have := congrArg (·[0]?) h
    simpa using this
  rw [h1] at h2
  rw [Option.some.inj h2]; exact hx
theorem next_tail {S : List UInt8} {l : List ArgP} {r : List UInt8} {a : Nat} (h : S.drop a = tailF l ++ 41 :: r) : ∀ c, (bodyL S)[a]? = some c → atomB c = false := by
  cases l with
  | nil => rw [tailF, List.nil_append] at h; exact next_not h (by decide)
  | cons x l => rw [tailF] at h; exact next_not (r := (textF x ++ tailF l) ++ 41 :: r) h (by decide)
theorem head_not {S : List UInt8} {e : Nat} {y : ArgP} {r : List UInt8} {a : Nat} (hf : FitA e y) (h : S.drop a = textF y ++ r) (hr : 2 ≤ r.length) : (bodyL S)[a]? ≠ some 41 := by
  obtain ⟨k, t, l⟩ := y
  unfold FitA at hf
  rcases hf with ⟨rfl, h1, h2, rfl⟩ | ⟨rfl, rfl⟩ | ⟨rfl, rfl, h1⟩
  · have e1 : textF (.mk 1 t []) = t := by rw [textF]; rfl
    rw [e1] at h
    cases t with
    | nil => exact absurd rfl h1
    | cons c t =>
      rw [show (bodyL S)[a]? = some c from body_get (i := 0) h hr rfl]
      intro e
      exact (atom_not (h2 c (List.mem_cons_self ..))).2.2.2.1 (Option.some.inj e)
  · have e1 : textF (.mk 2 t []) = if rawB t then rawL t else quotedL t := by rw [textF]; rfl
    rw [e1] at h
    cases hb : rawB t with
    | true =>
      rw [hb, if_pos rfl] at h
      rw [show (bodyL S)[a]? = some 123 from body_get (i := 0) h hr rfl]; decide
    | false =>
      rw [hb, if_neg (by decide)] at h
      rw [show (bodyL S)[a]? = some 34 from body_get (i := 0) h hr rfl]; decide
  · have e1 : textF (.mk 3 [] l) = 40 :: (joinF l ++ [41]) := by rw [textF]; rfl
    rw [e1] at h
    rw [show (bodyL S)[a]? = some 40 from body_get (i := 0) h hr rfl]; decide

mutual
theorem read_text : ∀ (x : ArgP) (S : List UInt8) (a : Nat) (r : List UInt8) (f d e n : Nat), FitA e x → d + e = 6 → S.drop a = textF x ++ r → 2 ≤ r.length → (∀ c, (bodyL S)[a + (textF x).length]? = some c → atomB c = false) → n + sizeA x ≤ 60 → 2 * sizeA x ≤ f → S.length ≤ 1000000 →
    argF S f d a n = .ok (x, a + (textF x).length, n + sizeA x)
  | .mk k t l, S, a, r, f, d, e, n, hfit, hde, hS, hr, hx, hn, hf, hl => by
    unfold FitA at hfit
    have hlen := drop_len hS (by omega)
    rw [sizeA] at hn hf ⊢
    obtain ⟨f, rfl⟩ : ∃ f', f = f' + 1 := ⟨f - 1, by omega⟩
    rcases hfit with ⟨rfl, h1, h2, rfl⟩ | ⟨rfl, rfl⟩ | ⟨rfl, rfl, h1⟩
    · have e1 : textF (.mk 1 t []) = t := by rw [textF]; rfl
      rw [e1] at hS hx ⊢
      rw [read_word hS hr h1 h2 hx (by omega) (by omega)]
      rfl
    · have e1 : textF (.mk 2 t []) = if rawB t then rawL t else quotedL t := by rw [textF]; rfl
      rw [e1] at hS hx hlen ⊢
      cases hb : rawB t with
      | true =>
        rw [hb, if_pos rfl] at hS hlen
        rw [if_pos rfl]
        have : t.length ≤ (rawL t).length := by simp [rawL]; omega
        rw [read_raw hS hr (by omega) (by omega) (by omega)]
        rfl
      | false =>
        rw [hb, if_neg (by decide)] at hS
        rw [if_neg (by decide)]
        rw [read_quoted hS hr (rawB_no hb) (by omega) (by omega)]
        rfl
    · have e1 : textF (.mk 3 [] l) = 40 :: (joinF l ++ [41]) := by rw [textF]; rfl
      rw [e1] at hS hx ⊢
      have hc : (bodyL S)[a]? = some 40 := body_get (i := 0) hS hr rfl
      rw [arg_head (by omega) (by omega) hc, if_neg (by decide), if_neg (by decide), if_pos rfl]
      have hS1 : S.drop (a + 1) = joinF l ++ (41 :: r) := by rw [← List.drop_drop, hS]; simp
      obtain ⟨f, rfl⟩ : ∃ f', f = f' + 1 := ⟨f - 1, by omega⟩
      cases l with
      | nil =>
        have h41 : (bodyL S)[a + 1]? = some 41 := body_get (q := [41]) (i := 0) (r := r) hS1 hr rfl
        rw [listF, if_pos h41]
        simp [joinF, sizeL]
      | cons y l =>
        have ⟨⟨e', he', hfy⟩, hfl⟩ : (∃ e', e = e' + 1 ∧ FitA e' y) ∧ FitL e l := by rw [FitL] at h1; exact h1
        have hS2 : S.drop (a + 1) = textF y ++ (tailF l ++ 41 :: r) := by rw [hS1, joinF]; simp
        have hS3 : S.drop (a + 1 + (textF y).length) = tailF l ++ 41 :: r := drop_more hS2
        rw [sizeL] at hn hf
        have hy1 := sizeA_pos y
        have hne : (bodyL S)[a + 1]? ≠ some 41 := head_not hfy hS2 (by simp; omega)
        rw [listF, if_neg hne, if_neg (by simp), if_pos rfl]
        rw [read_text y S (a + 1) (tailF l ++ 41 :: r) f (d + 1) e' (n + 1) hfy (by omega) hS2 (by simp; omega) (next_tail hS3) (by omega) (by omega) hl]
        dsimp only
        rw [List.nil_append, read_tail l S _ r f d e (n + 1 + sizeA y) [y] (by simp) hfl hde hS3 hr (by omega) (by omega) hl]
        simp only [joinF, sizeL, List.length_cons, List.length_append, List.length_nil, Except.ok.injEq, Prod.mk.injEq, List.cons_append, List.nil_append, true_and]
        omega
theorem read_tail : ∀ (l : List ArgP) (S : List UInt8) (a : Nat) (r : List UInt8) (f d e n : Nat) (acc : List ArgP), acc ≠ [] → FitL e l → d + e = 6 → S.drop a = tailF l ++ 41 :: r → 2 ≤ r.length → n + sizeL l ≤ 60 → 2 * sizeL l + 1 ≤ f → S.length ≤ 1000000 →
    listF S f d a n acc = .ok (.mk 3 [] (acc ++ l), a + (tailF l).length + 1, n + sizeL l)
  | [], S, a, r, f, d, e, n, acc, _, _, _, hS, hr, _, hf, _ => by
    obtain ⟨f, rfl⟩ : ∃ f', f = f' + 1 := ⟨f - 1, by omega⟩
    rw [tailF, List.nil_append] at hS
    have h41 : (bodyL S)[a]? = some 41 := body_get (q := [41]) (i := 0) (r := r) hS hr rfl
    rw [listF, if_pos h41]
    simp [tailF, sizeL]
  | y :: l, S, a, r, f, d, e, n, acc, hacc, hfit, hde, hS, hr, hn, hf, hl => by
    have ⟨⟨e', he', hfy⟩, hfl⟩ : (∃ e', e = e' + 1 ∧ FitA e' y) ∧ FitL e l := by rw [FitL] at hfit; exact hfit
    obtain ⟨f, rfl⟩ : ∃ f', f = f' + 1 := ⟨f - 1, by omega⟩
    rw [tailF] at hS ⊢
    have h32 : (bodyL S)[a]? = some 32 := body_get (q := [32]) (i := 0) (r := textF y ++ (tailF l ++ 41 :: r)) (by rw [hS]; simp) (by simp; omega) rfl
    have hS2 : S.drop (a + 1) = textF y ++ (tailF l ++ 41 :: r) := by rw [← List.drop_drop, hS]; simp
    have hS3 : S.drop (a + 1 + (textF y).length) = tailF l ++ 41 :: r := drop_more hS2
    rw [sizeL] at hn hf ⊢
    have hy1 := sizeA_pos y
    have hbl : blankF S a = true := by unfold blankF; rw [h32]; rfl
    rw [listF, if_neg (by rw [h32]; decide), if_neg (by rw [hbl]; simp), if_neg hacc]
    rw [read_text y S (a + 1) (tailF l ++ 41 :: r) f (d + 1) e' n hfy (by omega) hS2 (by simp; omega) (next_tail hS3) (by omega) (by omega) hl]
    dsimp only
    rw [read_tail l S _ r f d e (n + sizeA y) (acc ++ [y]) (by simp) hfl hde hS3 hr (by omega) (by omega) hl]
    simp only [List.length_cons, List.length_append, Except.ok.injEq, Prod.mk.injEq, List.append_assoc, List.cons_append, List.nil_append, true_and]
    omega
end
end Go.Proofs.YtbfndlmihijcgaaGreatDoor
