/- Plain laws: how a part is written, one after another. No program here. -/
import Derived.Test.YtbfndlmihijcgaaGreatDoorPBack
import Derived.Lib.Join
namespace Go.Proofs.YtbfndlmihijcgaaGreatDoor

theorem join_joinF : ∀ l : List ArgP, Lib.join (l.map textF) [32] = joinF l
  | [] => by rw [joinF]; rfl
  | [x] => by rw [joinF, tailF, List.append_nil]; exact Lib.join_one _ _
  | x :: y :: r => by
    have ih := join_joinF (y :: r)
    have e : Lib.join ((x :: y :: r).map textF) [32] = textF x ++ [32] ++ Lib.join ((y :: r).map textF) [32] := by simp [Lib.join, List.intercalate]
    rw [e, ih, joinF, joinF, tailF]
    simp
theorem tailF_snoc : ∀ (l : List ArgP) (x : ArgP), tailF (l ++ [x]) = tailF l ++ 32 :: textF x
  | [], x => by simp [tailF]
  | y :: l, x => by rw [List.cons_append, tailF, tailF, tailF_snoc l x]; simp
theorem tailF_le : ∀ l : List ArgP, l.length ≤ (tailF l).length
  | [] => Nat.zero_le _
  | x :: l => by
    have := tailF_le l
    rw [tailF]
    simp only [List.length_cons, List.length_append]; omega
theorem tailF_mem : ∀ (l : List ArgP) (x : ArgP), x ∈ l → (textF x).length ≤ (tailF l).length
  | y :: l, x, h => by
    rw [tailF]
    simp only [List.length_cons, List.length_append]
    rcases List.mem_cons.1 h with rfl | h
    · omega
    · have := tailF_mem l x h; omega
theorem tailF_take : ∀ (l : List ArgP) (k : Nat), (tailF (l.take k)).length ≤ (tailF l).length
  | [], k => by rw [List.take_nil]; exact Nat.le_refl _
  | x :: l, 0 => by rw [List.take_zero, tailF]; exact Nat.zero_le _
  | x :: l, k + 1 => by
    have := tailF_take l k
    rw [List.take_succ_cons, tailF, tailF]
    simp only [List.length_cons, List.length_append]; omega
theorem tail_join (l : List ArgP) : (tailF l).length ≤ (joinF l).length + 1 := by
  cases l with
  | nil => simp [tailF]
  | cons x l => rw [tailF, joinF]; simp
theorem size_mem : ∀ (l : List ArgP) (x : ArgP), x ∈ l → sizeA x ≤ sizeL l
  | y :: l, x, h => by
    rw [sizeL]
    rcases List.mem_cons.1 h with rfl | h
    · omega
    · have := size_mem l x h; omega
theorem esc_ge : ∀ s : List UInt8, s.length ≤ (escL s).length
  | [] => Nat.zero_le _
  | c :: s => by
    have ih := esc_ge s
    have e : escL (c :: s) = (if c = 92 then [92, 92] else if c = 34 then [92, 34] else [c]) ++ escL s := rfl
    rw [e, List.length_append, List.length_cons]
    split
    · simp; omega
    · split <;> (simp; omega)
theorem esc_same : ∀ s : List UInt8, (∀ c ∈ s, c ≠ 92 ∧ c ≠ 34) → escL s = s
  | [], _ => rfl
  | c :: s, h => by
    have ih := esc_same s fun x hx => h x (List.mem_cons_of_mem _ hx)
    have hc := h c (List.mem_cons_self ..)
    have e : escL (c :: s) = (if c = 92 then [92, 92] else if c = 34 then [92, 34] else [c]) ++ escL s := rfl
    rw [e, ih, if_neg hc.1, if_neg hc.2]; rfl
/-- a text that is a part of its own -/
def saidF (t : List UInt8) : List UInt8 := if rawB t then rawL t else quotedL t
theorem quote_diff {t : List UInt8} (h : quoteF t ≠ t) : quoteF t = saidF t := by
  unfold quoteF at h ⊢
  unfold saidF
  cases hb : rawB t with
  | true => rfl
  | false =>
    cases hw : wordB t with
    | true => rw [hb, hw] at h; exact absurd rfl h
    | false => rfl
theorem quote_same {t : List UInt8} (h : quoteF t = t) : 34 :: (t ++ [34]) = saidF t := by
  unfold quoteF at h
  unfold saidF
  cases hb : rawB t with
  | true =>
    rw [hb, if_pos rfl] at h
    have := congrArg List.length h
    simp [rawL] at this
    omega
  | false =>
    rw [hb, if_neg (by decide)] at h
    rw [if_neg (by decide)]
    cases hw : wordB t with
    | true =>
      unfold quotedL
      rw [esc_same]
      intro c hc
      unfold wordB at hw
      rw [Bool.and_eq_true, List.all_eq_true] at hw
      have h1 := hw.2 c hc
      rw [Bool.and_eq_true] at h1
      refine ⟨?_, (atom_not h1.1).1⟩
      rintro rfl
      exact absurd h1.2 (by decide)
    | false =>
      rw [hw, if_neg (by decide)] at h
      have := congrArg List.length h
      have := esc_ge t
      simp [quotedL] at *
      omega
theorem said_ge (t : List UInt8) : t.length ≤ (saidF t).length := by
  unfold saidF
  split
  · simp [rawL]; omega
  · have := esc_ge t; simp [quotedL]; omega
theorem text_said {k : Nat} {t : List UInt8} {l : List ArgP} (h3 : k ≠ 3) (h1 : k ≠ 1) : textF (.mk k t l) = saidF t := by
  rw [textF, if_neg h3, if_neg h1]; rfl
theorem text_word {t : List UInt8} {l : List ArgP} : textF (.mk 1 t l) = t := by rw [textF]; rfl
theorem text_list {t : List UInt8} {l : List ArgP} : textF (.mk 3 t l) = [40] ++ joinF l ++ [41] := by rw [textF]; rfl
end Go.Proofs.YtbfndlmihijcgaaGreatDoor
