/- Plain laws: how Next cuts bytes that are laid as lines and bytes behind their number. No program in sight; no condition beyond those each names. -/
import Derived.Test.YtbfndlmihijcgaaGreatDoorPDigits
import Derived.Test.YtbfndlmihijcgaaGreatDoorPPieces
namespace Go.Proofs.YtbfndlmihijcgaaGreatDoor

/-- no line's end within; behind each { a quote -/
def Calm (u : List UInt8) : Prop := (∀ i : Nat, u[i]? ≠ some 13) ∧ ∀ i : Nat, u[i]? = some 123 → ∃ j : Nat, i < j ∧ u[j]? = some 34
theorem calm_nil : Calm [] := ⟨fun i h => by simp at h, fun i h => by simp at h⟩
theorem Calm.append {u v : List UInt8} (hu : Calm u) (hv : Calm v) : Calm (u ++ v) := by
  constructor
  · intro i h
    rcases Nat.lt_or_ge i u.length with h' | h'
    · rw [List.getElem?_append_left h'] at h; exact hu.1 i h
    · rw [List.getElem?_append_right h'] at h; exact hv.1 _ h
  · intro i h
    rcases Nat.lt_or_ge i u.length with h' | h'
    · rw [List.getElem?_append_left h'] at h
      obtain ⟨j, h1, h2⟩ := hu.2 i h
      exact ⟨j, h1, by rw [List.getElem?_append_left (List.getElem?_eq_some_iff.1 h2).1]; exact h2⟩
    · rw [List.getElem?_append_right h'] at h
      obtain ⟨j, h1, h2⟩ := hv.2 _ h
      exact ⟨u.length + j, by omega, by rw [List.getElem?_append_right (by omega), show u.length + j - u.length = j by omega]; exact h2⟩
theorem calm_of {u : List UInt8} (h : ∀ c ∈ u, c ≠ 13 ∧ c ≠ 123) : Calm u :=
  ⟨fun i hi => (h _ (List.mem_of_getElem? hi)).1 rfl, fun i hi => absurd rfl (h _ (List.mem_of_getElem? hi)).2⟩
theorem calm_quoted {v : List UInt8} (h : ∀ c ∈ v, c ≠ 13) : Calm (34 :: (v ++ [34])) := by
  constructor
  · intro i hi
    have hm := List.mem_of_getElem? hi
    rcases List.mem_cons.1 hm with h1 | h1
    · cases h1
    · rcases List.mem_append.1 h1 with h2 | h2
      · exact h _ h2 rfl
      · rw [List.mem_singleton] at h2; cases h2
  · intro i hi
    refine ⟨v.length + 1, ?_, by simp⟩
    have hl := (List.getElem?_eq_some_iff.1 hi).1
    rcases Nat.lt_or_ge i (v.length + 1) with h1 | h1
    · exact h1
    · obtain rfl : i = v.length + 1 := by simp at hl; omega
      simp at hi
theorem get_bang (l : List UInt8) (i : Nat) (h : i < l.length) : ((⟨l.toArray⟩ : ByteArray).data[i]!) = l[i] := by
  rw [getElem!_pos (⟨l.toArray⟩ : ByteArray).data i (by simpa using h)]; rfl
/-- a calm line tells of no bytes behind it -/
theorem lit_calm {u : List UInt8} (h : Calm u) : litF u = none := by
  unfold litF
  rcases Lib.lastIndexByte_spec ⟨u.toArray⟩ 123 with ⟨h1, _⟩ | ⟨i, h1, h2, h3, h4⟩
  · rw [h1, if_pos (by decide)]
  · rw [w_size] at h1
    rw [h2, if_neg (by omega)]
    split
    · rfl
    · rename_i hl
      have hl : u.getLastD 0 = 125 := Decidable.not_not.1 hl
      rw [get_bang u i h1] at h3
      have hc : u[i]? = some 123 := by
        rw [List.getElem?_eq_getElem h1]
        congr 1
        exact UInt8.toNat_inj.1 (by have : (123 : UInt8).toNat = 123 := rfl; omega)
      obtain ⟨j, hij, hj⟩ := h.2 i hc
      obtain ⟨hjl, hje⟩ := List.getElem?_eq_some_iff.1 hj
      have hlast : u[u.length - 1]? = some 125 := by
        rw [← List.getLast?_eq_getElem?]
        rw [List.getLastD_eq_getLast?] at hl
        cases hg : u.getLast? with
        | none => rw [hg] at hl; cases hl
        | some x => rw [hg] at hl; simpa using hl
      have hjn : j ≠ u.length - 1 := fun e => by rw [e, hlast] at hj; cases hj
      rw [Int.toNat_natCast]
      cases hn : numF (innerL u i) with
      | none => rfl
      | some v =>
        exfalso
        have hm : (34 : UInt8) ∈ innerL u i := by
          unfold innerL
          refine List.mem_of_getElem? (i := j - (i + 1)) ?_
          rw [List.getElem?_take_of_lt (by omega), List.getElem?_drop, show i + 1 + (j - (i + 1)) = j by omega]
          exact hj
        have := num_digits hn 34 hm
        revert this; decide
/-- a line's end that tells a number -/
def litL (n : Nat) : List UInt8 := 123 :: (Lib.decDigits n ++ [125])
theorem litL_get (n i : Nat) (h : i < (litL n).length) : (litL n)[i]? = if i = 0 then some 123 else if i = (Lib.decDigits n).length + 1 then some 125 else (Lib.decDigits n)[i - 1]? := by
  unfold litL at h ⊢
  cases i with
  | zero => rfl
  | succ i =>
    rw [if_neg (by omega), List.getElem?_cons_succ]
    simp at h
    split
    · rename_i h1
      obtain rfl : i = (Lib.decDigits n).length := by omega
      simp
    · rw [List.getElem?_append_left (by omega)]; rfl
theorem litL_len (n : Nat) : (litL n).length = (Lib.decDigits n).length + 2 := by simp [litL]
theorem lit_last (u : List UInt8) (n : Nat) (hn : n < 4611686018427387904) : litF (u ++ litL n) = some (n : Int) := by
  have hlen := litL_len n
  have hlast : Lib.lastIndexByte ⟨(u ++ litL n).toArray⟩ 123 = (u.length : Int) := by
    rcases Lib.lastIndexByte_spec ⟨(u ++ litL n).toArray⟩ 123 with ⟨h1, h2⟩ | ⟨i, h1, h2, h3, h4⟩
    · exfalso
      refine h2 u.length (by rw [w_size, List.length_append]; omega) ?_
      rw [get_bang _ _ (by rw [List.length_append]; omega), List.getElem_append_right (Nat.le_refl _)]
      have : (litL n)[u.length - u.length]'(by omega) = 123 := by
        apply Option.some.inj
        rw [← List.getElem?_eq_getElem, litL_get n _ (by omega), if_pos (by omega)]
      rw [this]; rfl
    · rw [w_size, List.length_append] at h1
      rw [h2]
      congr 1
      rcases Nat.lt_trichotomy i u.length with h | h | h
      · exfalso
        refine h4 u.length h (by rw [w_size, List.length_append]; omega) ?_
        rw [get_bang _ _ (by rw [List.length_append]; omega), List.getElem_append_right (Nat.le_refl _)]
        have : (litL n)[u.length - u.length]'(by omega) = 123 := by
          apply Option.some.inj
          rw [← List.getElem?_eq_getElem, litL_get n _ (by omega), if_pos (by omega)]
        rw [this]; rfl
      · exact h
      · exfalso
        rw [get_bang _ _ (by rw [List.length_append]; omega), List.getElem_append_right (by omega)] at h3
        have hg := litL_get n (i - u.length) (by omega)
        rw [List.getElem?_eq_getElem (by omega), if_neg (by omega)] at hg
        split at hg
        · rw [Option.some.inj hg] at h3; revert h3; decide
        · have := dec_digits n _ (List.mem_of_getElem? hg.symm)
          omega
  unfold litF
  rw [hlast, if_neg (by omega)]
  have hend : (u ++ litL n).getLastD 0 = 125 := by
    rw [List.getLastD_eq_getLast?, litL, ← List.cons_append, ← List.append_assoc, List.getLast?_append]
    rfl
  rw [hend, if_neg (by decide), Int.toNat_natCast]
  have hin : innerL (u ++ litL n) u.length = Lib.decDigits n := by
    unfold innerL
    rw [List.length_append, hlen, List.drop_append, List.drop_eq_nil_of_le (by omega), List.nil_append, show u.length + 1 - u.length = 1 by omega, litL, List.drop_succ_cons, List.drop_zero,
      show u.length + ((Lib.decDigits n).length + 2) - 1 - (u.length + 1) = (Lib.decDigits n).length by omega, List.take_left]
  rw [hin, num_dec n hn]
/-- where a line ends -/
theorem index_line (u r : List UInt8) (h : ∀ i : Nat, u[i]? ≠ some 13) : Lib.index (u ++ 13 :: 10 :: r) [13, 10] = (u.length : Int) := by
  refine Lib.index_first (by simp) ?_ fun j hj => ?_
  · unfold Lib.occAt
    rw [List.drop_left]
    simp
  · unfold Lib.occAt
    have hg : (u ++ 13 :: 10 :: r)[j]? = u[j]? := List.getElem?_append_left hj
    cases hd : (u ++ 13 :: 10 :: r).drop j with
    | nil => simp
    | cons x t =>
      have : (u ++ 13 :: 10 :: r)[j]? = some x := by
        have := congrArg (·[0]?) hd
        simpa using this
      rw [hg] at this
      rw [List.isPrefixOf_cons_cons, Bool.and_eq_false_iff]
      left
      rw [beq_eq_false_iff_ne]
      intro e
      exact h j (by rw [this, ← e])
theorem litL_13 (n i : Nat) : (litL n)[i]? ≠ some 13 := by
  intro h
  have hl := (List.getElem?_eq_some_iff.1 h).1
  rw [litL_get n i hl] at h
  split at h
  · cases h
  · split at h
    · cases h
    · have := dec_digits n _ (List.mem_of_getElem? h)
      revert this; decide
theorem calm_lit {u : List UInt8} (h : Calm u) (n i : Nat) : (u ++ litL n)[i]? ≠ some 13 := by
  intro e
  rcases Nat.lt_or_ge i u.length with h' | h'
  · rw [List.getElem?_append_left h'] at e; exact h.1 i e
  · rw [List.getElem?_append_right h'] at e; exact litL_13 n _ e
/-- calm lines, and bytes behind their number, so often -/
inductive Chunks : List UInt8 → Nat → Prop
  | last (u : List UInt8) : Calm u → Chunks u 0
  | more (u s t : List UInt8) (k : Nat) : Calm u → s.length ≤ 3000 → Chunks t k → Chunks (u ++ (litL s.length ++ 13 :: 10 :: (s ++ t))) (k + 1)
theorem Chunks.before {u t : List UInt8} {k : Nat} (hu : Calm u) (h : Chunks t k) : Chunks (u ++ t) k := by
  cases h with
  | last v hv => exact .last _ (hu.append hv)
  | more v s t k hv hs ht => rw [← List.append_assoc]; exact .more _ s t k (hu.append hv) hs ht
theorem Chunks.append {a b : List UInt8} {i j : Nat} (h : Chunks a i) (hb : Chunks b j) : Chunks (a ++ b) (i + j) := by
  induction h with
  | last u hu => rw [Nat.zero_add]; exact hb.before hu
  | more u s t k hu hs _ ih =>
    rw [Nat.add_right_comm]
    have e : u ++ (litL s.length ++ 13 :: 10 :: (s ++ t)) ++ b = u ++ (litL s.length ++ 13 :: 10 :: (s ++ (t ++ b))) := by simp
    rw [e]
    exact .more u s _ _ hu hs ih
theorem next_chunks {t : List UInt8} {k : Nat} (h : Chunks t k) : ∀ (P r : List UInt8) (f w : Nat), P.length + t.length + 2 ≤ 3000 → t.length + 1 ≤ f → nextF (P ++ (t ++ 13 :: 10 :: r)) f P.length w = (P.length + t.length + 2, w + k, false) := by
  induction h with
  | last u hu =>
    intro P r f w hl hf
    obtain ⟨f, rfl⟩ : ∃ f', f = f' + 1 := ⟨f - 1, by omega⟩
    have hi : Lib.index ((P ++ (u ++ 13 :: 10 :: r)).drop P.length) [13, 10] = (u.length : Int) := by rw [List.drop_left]; exact index_line u r hu.1
    rw [next_end hi (by rw [List.drop_left, List.take_left]; exact lit_calm hu), if_neg (by omega)]
    rfl
  | more u s t k hu hs _ ih =>
    intro P r f w hl hf
    obtain ⟨f, rfl⟩ : ∃ f', f = f' + 1 := ⟨f - 1, by omega⟩
    have e : P ++ (u ++ (litL s.length ++ 13 :: 10 :: (s ++ t)) ++ 13 :: 10 :: r) = P ++ ((u ++ litL s.length) ++ 13 :: 10 :: (s ++ (t ++ 13 :: 10 :: r))) := by simp
    have hlen : (u ++ (litL s.length ++ 13 :: 10 :: (s ++ t))).length = (u ++ litL s.length).length + 2 + s.length + t.length := by simp; omega
    rw [hlen] at hl hf ⊢
    rw [e]
    have hi : Lib.index ((P ++ ((u ++ litL s.length) ++ 13 :: 10 :: (s ++ (t ++ 13 :: 10 :: r)))).drop P.length) [13, 10] = ((u ++ litL s.length).length : Int) := by rw [List.drop_left]; exact index_line _ _ (calm_lit hu _)
    rw [next_more hi (m := s.length) (by rw [List.drop_left, List.take_left]; exact lit_last u _ (by omega)), if_neg (by omega), if_neg (by simp; omega)]
    have e2 : P ++ ((u ++ litL s.length) ++ 13 :: 10 :: (s ++ (t ++ 13 :: 10 :: r))) = (P ++ (u ++ litL s.length) ++ 13 :: 10 :: s) ++ (t ++ 13 :: 10 :: r) := by simp
    have e3 : P.length + (u ++ litL s.length).length + 2 + s.length = (P ++ (u ++ litL s.length) ++ 13 :: 10 :: s).length := by simp; omega
    rw [e2, e3, ih _ r f (w + 1) (by rw [← e3]; omega) (by omega), ← e3]
    simp only [Prod.mk.injEq, and_true]
    omega
/-- a command that is laid so is cut off whole -/
theorem next_whole {t : List UInt8} {k : Nat} (h : Chunks t k) (r : List UInt8) (hl : t.length + 2 ≤ 3000) : nextF (t ++ 13 :: 10 :: r) ((t ++ 13 :: 10 :: r).length + 1) 0 0 = (t.length + 2, k, false) := by
  have := next_chunks h [] r ((t ++ 13 :: 10 :: r).length + 1) 0 (by simpa using hl) (by simp)
  simpa using this
end Go.Proofs.YtbfndlmihijcgaaGreatDoor
