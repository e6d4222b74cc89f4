/- Plain laws: a whole command, written and read again, and cut off just so. No program in sight; no condition beyond those each names. -/
import Derived.Test.YtbfndlmihijcgaaGreatDoorPRead
namespace Go.Proofs.YtbfndlmihijcgaaGreatDoor

theorem read_args : ∀ (l : List ArgP) (S : List UInt8) (a f n : Nat) (acc : List ArgP), FitL 7 l → S.drop a = tailF l ++ [13, 10] → n + sizeL l ≤ 60 → sizeL l + 1 ≤ f → S.length ≤ 1000000 → argsF S f a n acc = .ok (acc ++ l, a + (tailF l).length)
  | [], S, a, f, n, acc, _, hS, _, hf, _ => by
    obtain ⟨f, rfl⟩ : ∃ f', f = f' + 1 := ⟨f - 1, by omega⟩
    rw [tailF, List.nil_append] at hS
    have hlen := drop_len (q := [13, 10]) (r := []) hS (by decide)
    simp only [List.length_cons, List.length_nil] at hlen
    rw [argsF, if_pos (by omega)]
    simp [tailF]
  | y :: l, S, a, f, n, acc, hfit, hS, hn, hf, hl => by
    have ⟨⟨e', he', hfy⟩, hfl⟩ : (∃ e', 7 = e' + 1 ∧ FitA e' y) ∧ FitL 7 l := by rw [FitL] at hfit; exact hfit
    obtain rfl : e' = 6 := by omega
    obtain ⟨f, rfl⟩ : ∃ f', f = f' + 1 := ⟨f - 1, by omega⟩
    rw [tailF] at hS ⊢
    have hlen := drop_len hS (by simp)
    simp only [List.length_cons, List.length_append, List.length_nil] at hlen
    have h32 : (bodyL S)[a]? = some 32 := body_get (q := [32]) (i := 0) (r := textF y ++ (tailF l ++ [13, 10])) (by rw [hS]; simp) (by simp; omega) rfl
    have hS2 : S.drop (a + 1) = textF y ++ (tailF l ++ [13, 10]) := by rw [← List.drop_drop, hS]; simp
    have hS3 : S.drop (a + 1 + (textF y).length) = tailF l ++ [13, 10] := drop_more hS2
    rw [sizeL] at hn hf
    have hy1 := sizeA_pos y
    have hbl : blankF S a = true := by unfold blankF; rw [h32]; rfl
    have hnx : ∀ c, (bodyL S)[a + 1 + (textF y).length]? = some c → atomB c = false := by
      cases l with
      | nil => rw [tailF, List.nil_append] at hS3; exact next_not (r := [10]) hS3 (by decide)
      | cons x l => rw [tailF, List.cons_append] at hS3; exact next_not (x := 32) (r := (textF x ++ tailF l) ++ [13, 10]) hS3 (by decide)
    rw [argsF, if_neg (by omega), if_neg (by rw [hbl]; decide)]
    rw [read_text y S (a + 1) (tailF l ++ [13, 10]) 200 0 6 n hfy rfl hS2 (by simp) hnx (by omega) (by omega) hl]
    dsimp only
    rw [read_args l S _ f (n + sizeA y) (acc ++ [y]) hfl hS3 (by omega) (by omega) hl]
    simp only [List.length_cons, List.length_append, Except.ok.injEq, Prod.mk.injEq, List.append_assoc, List.cons_append, List.nil_append, true_and]
    omega
/-- how a command is written, but for the line's end -/
def lineF (tag nm : List UInt8) (l : List ArgP) : List UInt8 := tag ++ 32 :: (nm ++ tailF l)
theorem parse_line {tag nm : List UInt8} {l : List ArgP} (h1 : tag ≠ []) (h2 : ∀ c ∈ tag, atomB c = true) (h3 : nm ≠ []) (h4 : ∀ c ∈ nm, atomB c = true) (hfit : FitL 7 l) (hn : sizeL l ≤ 60) (hl : (lineF tag nm l).length ≤ 900000) :
    parseF (lineF tag nm l ++ [13, 10]) = .ok (tag, upL nm, l) := by
  obtain ⟨S, hS⟩ : ∃ S, lineF tag nm l ++ [13, 10] = S := ⟨_, rfl⟩
  rw [hS]
  have hsl : S.length = (lineF tag nm l).length + 2 := by rw [← hS]; simp
  have hd0 : S.drop 0 = tag ++ (32 :: (nm ++ (tailF l ++ [13, 10]))) := by rw [← hS, lineF]; simp
  have hw1 : wordL S 0 = tag := word_at hd0 (by simp; omega) h2 (by
    rw [Nat.zero_add]
    have := drop_more hd0
    rw [Nat.zero_add] at this
    exact next_not this (by decide))
  have hd1 : S.drop tag.length = 32 :: (nm ++ (tailF l ++ [13, 10])) := by have := drop_more hd0; rwa [Nat.zero_add] at this
  have hb1 : blankF S tag.length = true := by
    unfold blankF
    rw [show (bodyL S)[tag.length]? = some 32 from body_get (q := [32]) (i := 0) (r := nm ++ (tailF l ++ [13, 10])) (by rw [hd1]; rfl) (by simp; omega) rfl]
    rfl
  have hd2 : S.drop (tag.length + 1) = nm ++ (tailF l ++ [13, 10]) := by rw [← List.drop_drop, hd1]; rfl
  have hd3 : S.drop (tag.length + 1 + nm.length) = tailF l ++ [13, 10] := drop_more hd2
  have hw2 : wordL S (tag.length + 1) = nm := word_at hd2 (by simp) h4 (by
    cases l with
    | nil => rw [tailF, List.nil_append] at hd3; exact next_not (r := [10]) hd3 (by decide)
    | cons x l => rw [tailF, List.cons_append] at hd3; exact next_not (x := 32) (r := (textF x ++ tailF l) ++ [13, 10]) hd3 (by decide))
  have hsuf : Lib.hasSuffix S [13, 10] = true := by
    unfold Lib.hasSuffix
    rw [List.isSuffixOf_iff_suffix, ← hS]
    exact List.suffix_append _ _
  have hend : tag.length + 1 + nm.length + (tailF l).length + 2 = S.length := by rw [hsl, lineF]; simp; omega
  unfold parseF
  rw [hsuf, if_neg (by decide), hw1, if_neg h1, hb1, if_neg (by decide), hw2, if_neg h3, read_args l S _ 100 0 [] hfit hd3 (by omega) (by omega) (by omega)]
  dsimp only
  rw [if_pos hend, List.nil_append]

/- lines and bytes of what is written -/
theorem esc_13 {s : List UInt8} (h : ∀ c ∈ s, c ≠ 13) : ∀ c ∈ escL s, c ≠ 13 := by
  intro c hc
  unfold escL at hc
  rw [List.mem_flatMap] at hc
  obtain ⟨x, hx, hc⟩ := hc
  split at hc
  · rcases List.mem_cons.1 hc with rfl | hc
    · decide
    · rw [List.mem_singleton] at hc; subst hc; decide
  · split at hc
    · rcases List.mem_cons.1 hc with rfl | hc
      · decide
      · rw [List.mem_singleton] at hc; subst hc; decide
    · rw [List.mem_singleton] at hc; subst hc; exact h c hx
theorem calm_one (c : UInt8) (h1 : c ≠ 13) (h2 : c ≠ 123) : Calm [c] := calm_of fun x hx => by rw [List.mem_singleton] at hx; subst hx; exact ⟨h1, h2⟩
theorem calm_word {t : List UInt8} (h : ∀ c ∈ t, atomB c = true) : Calm t := calm_of fun c hc => ⟨(atom_not (h c hc)).2.2.2.2.2.1, (atom_not (h c hc)).2.1⟩
mutual
theorem chunk_text : ∀ (x : ArgP) (e : Nat), FitA e x → (textF x).length ≤ 3000 → ∃ k, Chunks (textF x) k
  | .mk k t l, e, hfit, hl => by
    unfold FitA at hfit
    rcases hfit with ⟨rfl, h1, h2, rfl⟩ | ⟨rfl, rfl⟩ | ⟨rfl, rfl, h1⟩
    · have e1 : textF (.mk 1 t []) = t := by rw [textF]; rfl
      rw [e1]
      exact ⟨0, .last t (calm_word h2)⟩
    · have e1 : textF (.mk 2 t []) = if rawB t then rawL t else quotedL t := by rw [textF]; rfl
      rw [e1] at hl ⊢
      cases hb : rawB t with
      | true =>
        rw [hb, if_pos rfl] at hl
        rw [if_pos rfl]
        have : t.length ≤ (rawL t).length := by simp [rawL]; omega
        have := Chunks.more [] t [] 0 calm_nil (by omega) (.last [] calm_nil)
        exact ⟨1, by simpa [rawL] using this⟩
      | false =>
        rw [if_neg (by decide)]
        exact ⟨0, .last _ (calm_quoted (esc_13 fun c hc => (rawB_no hb c hc).1))⟩
    · have e1 : textF (.mk 3 [] l) = 40 :: (joinF l ++ [41]) := by rw [textF]; rfl
      rw [e1] at hl ⊢
      have hend : Chunks [41] 0 := .last _ (calm_one 41 (by decide) (by decide))
      cases l with
      | nil =>
        rw [joinF, List.nil_append]
        exact ⟨0, .last _ ((calm_one 40 (by decide) (by decide)).append (calm_one 41 (by decide) (by decide)))⟩
      | cons y l =>
        have ⟨⟨e', he', hfy⟩, hfl⟩ : (∃ e', e = e' + 1 ∧ FitA e' y) ∧ FitL e l := by rw [FitL] at h1; exact h1
        rw [joinF] at hl ⊢
        simp only [List.length_cons, List.length_append] at hl
        obtain ⟨i, hi⟩ := chunk_text y e' hfy (by omega)
        obtain ⟨j, hj⟩ := chunk_tail l e hfl (by omega)
        refine ⟨i + j + 0, ?_⟩
        have := ((hi.append hj).append hend).before (calm_one 40 (by decide) (by decide))
        simpa using this
theorem chunk_tail : ∀ (l : List ArgP) (e : Nat), FitL e l → (tailF l).length ≤ 3000 → ∃ k, Chunks (tailF l) k
  | [], e, _, _ => ⟨0, by rw [tailF]; exact .last [] calm_nil⟩
  | y :: l, e, hfit, hl => by
    have ⟨⟨e', he', hfy⟩, hfl⟩ : (∃ e', e = e' + 1 ∧ FitA e' y) ∧ FitL e l := by rw [FitL] at hfit; exact hfit
    rw [tailF] at hl ⊢
    simp only [List.length_cons, List.length_append] at hl
    obtain ⟨i, hi⟩ := chunk_text y e' hfy (by omega)
    obtain ⟨j, hj⟩ := chunk_tail l e hfl (by omega)
    have := (hi.append hj).before (calm_one 32 (by decide) (by decide))
    exact ⟨i + j, by simpa using this⟩
end
theorem chunk_line {tag nm : List UInt8} {l : List ArgP} (h2 : ∀ c ∈ tag, atomB c = true) (h4 : ∀ c ∈ nm, atomB c = true) (hfit : FitL 7 l) (hl : (lineF tag nm l).length ≤ 3000) : ∃ k, Chunks (lineF tag nm l) k := by
  have h5 : (tailF l).length ≤ 3000 := by unfold lineF at hl; simp at hl; omega
  obtain ⟨k, hk⟩ := chunk_tail l 7 hfit h5
  have := ((hk.before (calm_word h4)).before (calm_one 32 (by decide) (by decide))).before (calm_word h2)
  exact ⟨k, by simpa [lineF] using this⟩

/- what is said of a text -/
def argQ (s : List UInt8) : ArgP := .mk (if !rawB s && wordB s then 1 else 2) s []
theorem text_argQ (s : List UInt8) : textF (argQ s) = quoteF s := by
  unfold argQ quoteF
  cases h1 : rawB s with
  | true => rw [textF]; simp [h1]
  | false =>
    cases h2 : wordB s with
    | true => rw [textF]; simp
    | false => rw [textF]; simp [h1]
theorem wordB_parts {s : List UInt8} (h : wordB s = true) : s ≠ [] ∧ ∀ c ∈ s, atomB c = true := by
  unfold wordB at h
  rw [Bool.and_eq_true, List.all_eq_true] at h
  refine ⟨?_, fun c hc => (Bool.and_eq_true_iff.1 (h.2 c hc)).1⟩
  rintro rfl
  exact absurd h.1 (by decide)
theorem fit_argQ (e : Nat) (s : List UInt8) : FitA e (argQ s) := by
  unfold argQ FitA
  split
  · rename_i h
    rw [Bool.and_eq_true] at h
    exact Or.inl ⟨rfl, (wordB_parts h.2).1, (wordB_parts h.2).2, rfl⟩
  · exact Or.inr (Or.inl ⟨rfl, rfl⟩)
/-- the parts of what WireQuote says -/
def quoteArgs (s t : List UInt8) : List ArgP := [argQ s, .mk 3 [] [argQ t, argQ s]]
def quoteLine (s t : List UInt8) : List UInt8 := [97, 32, 98, 32] ++ quoteF s ++ [32, 40] ++ quoteF t ++ [32] ++ quoteF s ++ [41]
theorem quote_line (s t : List UInt8) : quoteLine s t = lineF [97] [98] (quoteArgs s t) := by
  have e1 : textF (.mk 3 [] [argQ t, argQ s]) = 40 :: (joinF [argQ t, argQ s] ++ [41]) := by rw [textF]; rfl
  unfold quoteLine lineF quoteArgs
  simp [tailF, joinF, e1, text_argQ]
theorem quote_fit (s t : List UInt8) : FitL 7 (quoteArgs s t) := by
  unfold quoteArgs
  rw [FitL, FitL, FitL]
  refine ⟨⟨6, rfl, fit_argQ 6 s⟩, ⟨6, rfl, ?_⟩, trivial⟩
  rw [FitA]
  refine Or.inr (Or.inr ⟨rfl, rfl, ?_⟩)
  rw [FitL, FitL, FitL]
  exact ⟨⟨5, rfl, fit_argQ 5 t⟩, ⟨5, rfl, fit_argQ 5 s⟩, trivial⟩
theorem quote_size (s t : List UInt8) : sizeL (quoteArgs s t) = 4 := by simp [quoteArgs, sizeL, sizeA, argQ]
theorem quote_parse (s t : List UInt8) (h : (quoteLine s t).length ≤ 3000) : parseF (quoteLine s t ++ [13, 10]) = .ok ([97], [66], quoteArgs s t) := by
  rw [quote_line] at h ⊢
  exact parse_line (by decide) (by decide) (by decide) (by decide) (quote_fit s t) (by rw [quote_size]; decide) (by omega)
theorem quote_next (s t r : List UInt8) (h : (quoteLine s t).length + 2 ≤ 3000) : ∃ k, nextF (quoteLine s t ++ 13 :: 10 :: r) ((quoteLine s t ++ 13 :: 10 :: r).length + 1) 0 0 = ((quoteLine s t).length + 2, k, false) := by
  obtain ⟨k, hk⟩ := chunk_line (tag := [97]) (nm := [98]) (by decide) (by decide) (quote_fit s t) (by rw [← quote_line]; omega)
  rw [← quote_line] at hk
  exact ⟨k, next_whole hk r h⟩
end Go.Proofs.YtbfndlmihijcgaaGreatDoor
