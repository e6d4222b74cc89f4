/- Plain laws of what is looked for, third part: a key takes words, and counts. No program in sight; no condition beyond those each names. Plain laws of what is looked for, second part: what two readings of the same words agree in; the words that tell a set or a number. No program in sight; no condition beyond those each names. -/
import Derived.Test.YtgblgbhfgiajiaaGreatDoorPSearch
namespace Go.Proofs.YtgblgbhfgiajiaaGreatDoor

/-- a reader that takes words, and counts up to 60 -/
def StepK (f : List Wd → Nat → KeyE) : Prop := ∀ l n k r a, f l n = .ok (k, r, a) → r.length < l.length ∧ n < a ∧ a ≤ 60
/-- a reader that takes no words more than there are -/
def StepW (f : List Wd → Nat → KeyE) : Prop := ∀ l n k r a, f l n = .ok (k, r, a) → n ≤ 60 → r.length ≤ l.length ∧ n ≤ a ∧ a ≤ 60
theorem word_step {l l' : List Wd} {s : List UInt8} (h : wordK l = .ok (s, l')) : l'.length < l.length := by
  cases l with
  | nil => rw [wordK] at h; cases h
  | cons t l =>
    rw [wordK] at h
    split at h
    · cases h
    · cases h; simp
theorem number_step {l l' : List Wd} {s : Int} (h : numberK l = .ok (s, l')) : l'.length < l.length := by
  unfold numberK at h
  cases hw : wordK l with
  | error e => rw [hw] at h; cases h
  | ok x =>
    rw [hw] at h
    simp only at h
    split at h
    · cases h; exact word_step hw
    · cases h
theorem flag_step {l l' : List Wd} {s : List UInt8} (h : flagK l = .ok (s, l')) : l'.length < l.length := by
  unfold flagK at h
  cases hw : wordK l with
  | error e => rw [hw] at h; cases h
  | ok x =>
    rw [hw] at h
    simp only at h
    split at h
    · cases h; exact word_step hw
    · cases h
theorem head_step {nm : List UInt8} {l : List Wd} {n : Nat} {k : KeyP} {r : List Wd} {a : Nat} (h : headK nm l n = .ok (k, r, a)) : r.length < l.length ∧ a = n := by
  unfold headK at h
  cases hw : wordK l with
  | error e => rw [hw] at h; cases h
  | ok x => rw [hw] at h; cases h; exact ⟨word_step hw, rfl⟩
theorem text_step {c : Int} {l : List Wd} {n : Nat} {k : KeyP} {r : List Wd} {a : Nat} (h : textK c l n = .ok (k, r, a)) : r.length < l.length ∧ a = n := by
  unfold textK at h
  cases hw : wordK l with
  | error e => rw [hw] at h; cases h
  | ok x => rw [hw] at h; cases h; exact ⟨word_step hw, rfl⟩
theorem more_step {f : List Wd → Nat → KeyE} (hf : StepK f) (w s : List UInt8) : StepW (moreK f w s) := by
  intro l n k r a h hn
  unfold moreK at h
  by_cases q0 : s = [70, 82, 79, 77] ∨ s = [84, 79] ∨ s = [83, 85, 66, 74, 69, 67, 84] ∨ s = [67, 67]
  · rw [if_pos q0] at h
    obtain ⟨h1, h2⟩ := head_step h
    omega
  rw [if_neg q0] at h
  by_cases q1 : s = [65, 76, 76]
  · rw [if_pos q1] at h
    cases h; exact ⟨Nat.le_refl _, Nat.le_refl _, hn⟩
  rw [if_neg q1] at h
  by_cases q2 : s = [75, 69, 89, 87, 79, 82, 68]
  · rw [if_pos q2] at h
    cases hw : flagK l with
    | error e => rw [hw] at h; cases h
    | ok x => rw [hw] at h; cases h; have := flag_step hw; omega
  rw [if_neg q2] at h
  by_cases q3 : s = [85, 78, 75, 69, 89, 87, 79, 82, 68]
  · rw [if_pos q3] at h
    cases hw : flagK l with
    | error e => rw [hw] at h; cases h
    | ok x => rw [hw] at h; cases h; have := flag_step hw; omega
  rw [if_neg q3] at h
  by_cases q4 : s = [72, 69, 65, 68, 69, 82]
  · rw [if_pos q4] at h
    cases hw : wordK l with
    | error e => rw [hw] at h; cases h
    | ok x =>
      rw [hw] at h
      obtain ⟨h1, h2⟩ := head_step h
      have := word_step hw
      omega
  rw [if_neg q4] at h
  by_cases q5 : s = [66, 79, 68, 89]
  · rw [if_pos q5] at h
    obtain ⟨h1, h2⟩ := text_step h
    omega
  rw [if_neg q5] at h
  by_cases q6 : s = [84, 69, 88, 84]
  · rw [if_pos q6] at h
    obtain ⟨h1, h2⟩ := text_step h
    omega
  rw [if_neg q6] at h
  by_cases q7 : s = [85, 73, 68]
  · rw [if_pos q7] at h
    cases hw : wordK l with
    | error e => rw [hw] at h; cases h
    | ok x =>
      rw [hw] at h
      simp only at h
      have := word_step hw
      split at h
      · cases h
      · cases h; omega
  rw [if_neg q7] at h
  by_cases q8 : s = [78, 79, 84]
  · rw [if_pos q8] at h
    cases hw : f l n with
    | error e => rw [hw] at h; cases h
    | ok x =>
      obtain ⟨k1, r1, a1⟩ := x
      have := hf _ _ _ _ _ hw
      rw [hw] at h; cases h; omega
  rw [if_neg q8] at h
  by_cases q9 : s = [79, 82]
  · rw [if_pos q9] at h
    cases hw : f l n with
    | error e => rw [hw] at h; cases h
    | ok x =>
      obtain ⟨k1, r1, a1⟩ := x
      have h1 := hf _ _ _ _ _ hw
      rw [hw] at h
      simp only at h
      cases hw2 : f r1 a1 with
      | error e => rw [hw2] at h; cases h
      | ok y =>
        obtain ⟨k2, r2, a2⟩ := y
        have h2 := hf _ _ _ _ _ hw2
        rw [hw2] at h; cases h; omega
  rw [if_neg q9] at h
  cases hp : parseS w with
  | error e => rw [hp] at h; cases h
  | ok y => rw [hp] at h; cases h; exact ⟨Nat.le_refl _, Nat.le_refl _, hn⟩
theorem plain_step {f : List Wd → Nat → KeyE} (hf : StepK f) (w : List UInt8) : StepW (plainK f w) := by
  intro l n k r a h hn
  unfold plainK at h
  cases hs : sysK (greatL w) with
  | some x => rw [hs] at h; cases h; exact ⟨Nat.le_refl _, Nat.le_refl _, hn⟩
  | none =>
    rw [hs] at h
    simp only at h
    split at h
    · cases hw : numberK l with
      | error e => rw [hw] at h; cases h
      | ok x => rw [hw] at h; cases h; have := number_step hw; omega
    · exact more_step hf _ _ _ _ _ _ _ h hn
theorem loop_step {f : List Wd → Nat → KeyE} (hf : StepK f) : ∀ fu l n acc ks a, loopK f fu l n acc = .ok (ks, a) → n < a ∧ a ≤ 60
  | 0, l, n, acc, ks, a, h => by rw [loopK] at h; cases h
  | fu + 1, l, n, acc, ks, a, h => by
    rw [loopK] at h
    cases hw : f l n with
    | error e => rw [hw] at h; cases h
    | ok x =>
      obtain ⟨k1, r1, a1⟩ := x
      have h1 := hf _ _ _ _ _ hw
      rw [hw] at h
      by_cases hr : r1 = []
      · simp only [hr, if_true] at h
        cases h; omega
      · simp only [if_neg hr] at h
        have := loop_step hf fu r1 a1 _ ks a h
        omega
theorem keys_step {f : List Wd → Nat → KeyE} (hf : StepK f) {l : List Wd} {n : Nat} {k : KeyP} {a : Nat} (h : keysK f l n = .ok (k, a)) : n < a ∧ a ≤ 60 := by
  unfold keysK at h
  cases hw : loopK f (l.length + 1) l n [] with
  | error e => rw [hw] at h; cases h
  | ok x => rw [hw] at h; cases h; exact loop_step hf _ _ _ _ _ _ hw
theorem key_step : ∀ d : Nat, StepK (keyK d)
  | 0 => fun l n k r a h => by rw [keyK_zero] at h; cases h
  | d + 1 => fun l n k r a h => by
    cases l with
    | nil =>
      rw [keyK_nil] at h
      split at h <;> cases h
    | cons t l =>
      rw [keyK_cons] at h
      split at h
      · cases h
      split at h
      · cases hw : keysK (keyK d) t.list (n + 1) with
        | error e => rw [hw] at h; cases h
        | ok x =>
          have := keys_step (key_step d) hw
          rw [hw] at h; cases h
          simp only [List.length_cons]
          omega
      · have := plain_step (key_step d) _ _ _ _ _ _ h (by omega)
        simp only [List.length_cons]
        omega
/-- the loop's steps -/
theorem loop_more {f : List Wd → Nat → KeyE} {fu : Nat} {l l' : List Wd} {n n' : Nat} {acc : List KeyP} {k : KeyP} (h : f l n = .ok (k, l', n')) : loopK f (fu + 1) l n acc = if l' = [] then .ok (acc ++ [k], n') else loopK f fu l' n' (acc ++ [k]) := by
  rw [loopK, h]
theorem loop_bad {f : List Wd → Nat → KeyE} {fu E : Nat} {l : List Wd} {n : Nat} {acc : List KeyP} (h : f l n = .error E) : loopK f (fu + 1) l n acc = .error E := by
  rw [loopK, h]
end Go.Proofs.YtgblgbhfgiajiaaGreatDoor
namespace Go.Proofs.YtgblgbhfgiajiaaGreatDoor

/-- two readers that agree in what they give -/
def AgreeK (f g : List Wd → Nat → KeyE) : Prop := ∀ l n m k r a k' r' b, f l n = .ok (k, r, a) → g l m = .ok (k', r', b) → k = k' ∧ r = r'
theorem loop_agree {f g : List Wd → Nat → KeyE} (h : AgreeK f g) : ∀ fu l n m acc ks a ks' b, loopK f fu l n acc = .ok (ks, a) → loopK g fu l m acc = .ok (ks', b) → ks = ks'
  | 0, l, n, m, acc, ks, a, ks', b, h1, h2 => by rw [loopK] at h1; cases h1
  | fu + 1, l, n, m, acc, ks, a, ks', b, h1, h2 => by
    rw [loopK] at h1 h2
    cases hf : f l n with
    | error e => rw [hf] at h1; cases h1
    | ok x =>
      obtain ⟨k, r, a1⟩ := x
      cases hg : g l m with
      | error e => rw [hg] at h2; cases h2
      | ok y =>
        obtain ⟨k', r', b1⟩ := y
        obtain ⟨rfl, rfl⟩ := h l n m k r a1 k' r' b1 hf hg
        rw [hf] at h1
        rw [hg] at h2
        by_cases hr : r = []
        · simp only [hr, if_true] at h1 h2
          cases h1; cases h2; rfl
        · simp only [if_neg hr] at h1 h2
          exact loop_agree h fu r a1 b1 _ ks a ks' b h1 h2
theorem keys_agree {f g : List Wd → Nat → KeyE} (h : AgreeK f g) {l : List Wd} {n m a b : Nat} {k k' : KeyP} (h1 : keysK f l n = .ok (k, a)) (h2 : keysK g l m = .ok (k', b)) : k = k' := by
  unfold keysK at h1 h2
  cases hf : loopK f (l.length + 1) l n [] with
  | error e => rw [hf] at h1; cases h1
  | ok x =>
    cases hg : loopK g (l.length + 1) l m [] with
    | error e => rw [hg] at h2; cases h2
    | ok y =>
      obtain ⟨ks, a1⟩ := x
      obtain ⟨ks', b1⟩ := y
      have := loop_agree h _ _ _ _ _ _ _ _ _ hf hg
      subst this
      rw [hf] at h1; rw [hg] at h2
      cases h1; cases h2; rfl
theorem head_agree {nm : List UInt8} {l : List Wd} {n m : Nat} {k k' : KeyP} {r r' : List Wd} {a b : Nat} (h1 : headK nm l n = .ok (k, r, a)) (h2 : headK nm l m = .ok (k', r', b)) : k = k' ∧ r = r' := by
  unfold headK at h1 h2
  cases hw : wordK l with
  | error e => rw [hw] at h1; cases h1
  | ok x => rw [hw] at h1 h2; cases h1; cases h2; exact ⟨rfl, rfl⟩
theorem text_agree {c : Int} {l : List Wd} {n m : Nat} {k k' : KeyP} {r r' : List Wd} {a b : Nat} (h1 : textK c l n = .ok (k, r, a)) (h2 : textK c l m = .ok (k', r', b)) : k = k' ∧ r = r' := by
  unfold textK at h1 h2
  cases hw : wordK l with
  | error e => rw [hw] at h1; cases h1
  | ok x => rw [hw] at h1 h2; cases h1; cases h2; exact ⟨rfl, rfl⟩
theorem more_agree {f g : List Wd → Nat → KeyE} (h : AgreeK f g) (w s : List UInt8) : AgreeK (moreK f w s) (moreK g w s) := by
  intro l n m k r a k' r' b h1 h2
  unfold moreK at h1 h2
  by_cases q0 : s = [70, 82, 79, 77] ∨ s = [84, 79] ∨ s = [83, 85, 66, 74, 69, 67, 84] ∨ s = [67, 67]
  · rw [if_pos q0] at h1 h2
    exact head_agree h1 h2
  rw [if_neg q0] at h1 h2
  by_cases q1 : s = [65, 76, 76]
  · rw [if_pos q1] at h1 h2
    cases h1; cases h2; exact ⟨rfl, rfl⟩
  rw [if_neg q1] at h1 h2
  by_cases q2 : s = [75, 69, 89, 87, 79, 82, 68]
  · rw [if_pos q2] at h1 h2
    cases hw : flagK l with
    | error e => rw [hw] at h1; cases h1
    | ok x => rw [hw] at h1 h2; cases h1; cases h2; exact ⟨rfl, rfl⟩
  rw [if_neg q2] at h1 h2
  by_cases q3 : s = [85, 78, 75, 69, 89, 87, 79, 82, 68]
  · rw [if_pos q3] at h1 h2
    cases hw : flagK l with
    | error e => rw [hw] at h1; cases h1
    | ok x => rw [hw] at h1 h2; cases h1; cases h2; exact ⟨rfl, rfl⟩
  rw [if_neg q3] at h1 h2
  by_cases q4 : s = [72, 69, 65, 68, 69, 82]
  · rw [if_pos q4] at h1 h2
    cases hw : wordK l with
    | error e => rw [hw] at h1; cases h1
    | ok x => rw [hw] at h1 h2; exact head_agree h1 h2
  rw [if_neg q4] at h1 h2
  by_cases q5 : s = [66, 79, 68, 89]
  · rw [if_pos q5] at h1 h2
    exact text_agree h1 h2
  rw [if_neg q5] at h1 h2
  by_cases q6 : s = [84, 69, 88, 84]
  · rw [if_pos q6] at h1 h2
    exact text_agree h1 h2
  rw [if_neg q6] at h1 h2
  by_cases q7 : s = [85, 73, 68]
  · rw [if_pos q7] at h1 h2
    cases hw : wordK l with
    | error e => rw [hw] at h1; cases h1
    | ok x =>
      rw [hw] at h1 h2
      simp only at h1 h2
      cases hp : parseS x.1 with
      | error e => rw [hp] at h1; cases h1
      | ok y => rw [hp] at h1 h2; cases h1; cases h2; exact ⟨rfl, rfl⟩
  rw [if_neg q7] at h1 h2
  by_cases q8 : s = [78, 79, 84]
  · rw [if_pos q8] at h1 h2
    cases hf : f l n with
    | error e => rw [hf] at h1; cases h1
    | ok x =>
      cases hg : g l m with
      | error e => rw [hg] at h2; cases h2
      | ok y =>
        obtain ⟨e1, e2⟩ := h l n m _ _ _ _ _ _ hf hg
        rw [hf] at h1; rw [hg] at h2
        cases h1; cases h2
        rw [e1, e2]; exact ⟨rfl, rfl⟩
  rw [if_neg q8] at h1 h2
  by_cases q9 : s = [79, 82]
  · rw [if_pos q9] at h1 h2
    cases hf : f l n with
    | error e => rw [hf] at h1; cases h1
    | ok x =>
      cases hg : g l m with
      | error e => rw [hg] at h2; cases h2
      | ok y =>
        obtain ⟨x1, x2, x3⟩ := x
        obtain ⟨y1, y2, y3⟩ := y
        obtain ⟨rfl, rfl⟩ := h l n m _ _ _ _ _ _ hf hg
        rw [hf] at h1; rw [hg] at h2
        simp only at h1 h2
        cases hf2 : f x2 x3 with
        | error e => rw [hf2] at h1; cases h1
        | ok z =>
          cases hg2 : g x2 y3 with
          | error e => rw [hg2] at h2; cases h2
          | ok u =>
            obtain ⟨e1, e2⟩ := h _ _ _ _ _ _ _ _ _ hf2 hg2
            rw [hf2] at h1; rw [hg2] at h2
            cases h1; cases h2
            rw [e1, e2]; exact ⟨rfl, rfl⟩
  rw [if_neg q9] at h1 h2
  · cases hp : parseS w with
    | error e => rw [hp] at h1; cases h1
    | ok y => rw [hp] at h1 h2; cases h1; cases h2; exact ⟨rfl, rfl⟩
theorem plain_agree {f g : List Wd → Nat → KeyE} (h : AgreeK f g) (w : List UInt8) : AgreeK (plainK f w) (plainK g w) := by
  intro l n m k r a k' r' b h1 h2
  unfold plainK at h1 h2
  cases hs : sysK (greatL w) with
  | some x => rw [hs] at h1 h2; cases h1; cases h2; exact ⟨rfl, rfl⟩
  | none =>
    rw [hs] at h1 h2
    simp only at h1 h2
    split at h1
    · rename_i h0
      rw [if_pos h0] at h2
      cases hn : numberK l with
      | error e => rw [hn] at h1; cases h1
      | ok x => rw [hn] at h1 h2; cases h1; cases h2; exact ⟨rfl, rfl⟩
    · rename_i h0
      rw [if_neg h0] at h2
      exact more_agree h _ _ _ _ _ _ _ _ _ _ _ h1 h2
theorem key_agree : ∀ d d' : Nat, AgreeK (keyK d) (keyK d')
  | 0, d' => fun l n m k r a k' r' b h1 h2 => by rw [keyK_zero] at h1; cases h1
  | d + 1, 0 => fun l n m k r a k' r' b h1 h2 => by rw [keyK_zero] at h2; cases h2
  | d + 1, d' + 1 => fun l n m k r a k' r' b h1 h2 => by
    cases l with
    | nil =>
      rw [keyK_nil] at h1
      split at h1 <;> cases h1
    | cons t l =>
      rw [keyK_cons] at h1 h2
      split at h1
      · cases h1
      split at h2
      · cases h2
      split at h1
      · rename_i ht
        rw [if_pos ht] at h2
        cases hf : keysK (keyK d) t.list (n + 1) with
        | error e => rw [hf] at h1; cases h1
        | ok x =>
          cases hg : keysK (keyK d') t.list (m + 1) with
          | error e => rw [hg] at h2; cases h2
          | ok y =>
            have := keys_agree (key_agree d d') hf hg
            rw [hf] at h1; rw [hg] at h2
            cases h1; cases h2
            exact ⟨this, rfl⟩
      · rename_i ht
        rw [if_neg ht] at h2
        exact plain_agree (key_agree d d') _ _ _ _ _ _ _ _ _ _ h1 h2

/-- a word that begins with no letter is no word of the program's -/
theorem no_word {c : UInt8} {t : List UInt8} (hc : c.toNat < 65) : sysK (greatL (c :: t)) = none ∧ numsK (greatL (c :: t)) = 0 ∧ ∀ f w l n, moreK f w (greatL (c :: t)) l n = match parseS w with | .error e => .error e | .ok r => .ok (.mk 12 [] [] 0 r [], l, n) := by
  have hg : greatL (c :: t) = c :: greatL t := by
    show greatC c :: greatL t = c :: greatL t
    unfold greatC
    rw [if_neg (by omega)]
  rw [hg]
  have hne : ∀ (d : UInt8) (u : List UInt8), 65 ≤ d.toNat → (c :: greatL t) ≠ d :: u := fun d u hd e => by
    injection e with e1 _
    rw [e1] at hc; omega
  refine ⟨?_, ?_, fun f w l n => ?_⟩
  · have hu : unK (c :: greatL t) = (c :: greatL t, false) := by
      unfold unK
      rw [if_neg]
      intro h
      unfold Lib.hasPrefix at h
      obtain ⟨r, hr⟩ := List.isPrefixOf_iff_prefix.1 h
      exact hne 85 (78 :: r) (by decide) hr.symm
    unfold sysK
    rw [hu]
    rw [if_neg]
    intro h
    simp only [wordsL, List.mem_cons, List.not_mem_nil, or_false] at h
    rcases h with h | h | h | h | h
    · exact hne _ _ (by decide) h
    · exact hne _ _ (by decide) h
    · exact hne _ _ (by decide) h
    · exact hne _ _ (by decide) h
    · exact hne _ _ (by decide) h
  · unfold numsK
    rw [if_neg (hne _ _ (by decide)), if_neg (hne _ _ (by decide)), if_neg (hne _ _ (by decide)), if_neg (hne _ _ (by decide)), if_neg (hne _ _ (by decide))]
  · unfold moreK
    rw [if_neg (by
      rintro (h | h | h | h)
      · exact hne _ _ (by decide) h
      · exact hne _ _ (by decide) h
      · exact hne _ _ (by decide) h
      · exact hne _ _ (by decide) h), if_neg (hne _ _ (by decide)), if_neg (hne _ _ (by decide)), if_neg (hne _ _ (by decide)), if_neg (hne _ _ (by decide)), if_neg (hne _ _ (by decide)), if_neg (hne _ _ (by decide)), if_neg (hne _ _ (by decide)), if_neg (hne _ _ (by decide)), if_neg (hne _ _ (by decide))]
    cases parseS w <;> rfl
/-- what a set is written as begins with no letter -/
theorem print_head {l : List Rg} (h : rightS l = true) : ∃ c t, printS l = c :: t ∧ c.toNat < 65 := by
  obtain ⟨h1, _, h3⟩ := right_parts h
  cases l with
  | nil => simp at h1
  | cons r l =>
    obtain ⟨ho1, ho2⟩ := h3 r (List.mem_cons_self)
    have hN : ∃ c t, textN r.1 = c :: t ∧ c.toNat < 65 := by
      unfold textN
      split
      · exact ⟨42, [], rfl, by decide⟩
      · unfold okN at ho1
        rw [Bool.and_eq_true, decide_eq_true_eq, decide_eq_true_eq] at ho1
        obtain ⟨n, hn⟩ : ∃ n : Nat, r.1 = n := ⟨r.1.toNat, by omega⟩
        rw [hn, itoa_nat]
        cases hd : Lib.decDigits n with
        | nil => exact absurd hd (dec_ne n)
        | cons c t =>
          have := dec_digits n c (by rw [hd]; exact List.mem_cons_self)
          exact ⟨c, t, rfl, by omega⟩
    obtain ⟨c, t, hct, hc⟩ := hN
    have hR : ∃ t', textR r = c :: t' := by
      unfold textR
      split
      · exact ⟨t, hct⟩
      · rw [hct]; exact ⟨_, rfl⟩
    obtain ⟨t', ht'⟩ := hR
    have hJ : ∃ t'', printS (r :: l) = c :: t'' := by
      unfold printS
      rw [List.map_cons, ht']
      cases l with
      | nil => exact ⟨t', by simp [Lib.join]⟩
      | cons q l => exact ⟨_, rfl⟩
    obtain ⟨t'', ht''⟩ := hJ
    exact ⟨c, t'', ht'', hc⟩
abbrev atomW (s : List UInt8) : Wd := .mk 1 s []
abbrev listW (l : List Wd) : Wd := .mk 3 [] l
/-- the word that is a set, as a key -/
theorem key_setP {l : List Rg} (h : rightS l = true) (d : Nat) (r : List Wd) (n : Nat) (hn : n < 60) : keyK (d + 1) (atomW (printS l) :: r) n = .ok (.mk 12 [] [] 0 l [], r, n + 1) := by
  obtain ⟨c, t, hct, hc⟩ := print_head h
  obtain ⟨h1, h2, h3⟩ := no_word (t := t) hc
  rw [← hct] at h1 h2 h3
  rw [keyK_cons, if_neg (by omega)]
  show plainK (keyK d) (printS l) r (n + 1) = _
  unfold plainK
  rw [h1]
  simp only
  rw [h2, if_neg (by decide), h3, parse_print h]
theorem parse_set {l : List Rg} (h : rightS l = true) : parseK [atomW (printS l)] = .ok (.mk 12 [] [] 0 l []) := by
  unfold parseK keysK loopK
  rw [key_setP h 6 [] 0 (by decide)]
  rfl
/-- UID in any letters, and a set -/
theorem key_uidP {l : List Rg} (h : rightS l = true) (w : List UInt8) (hw : greatL w = [85, 73, 68]) (d : Nat) (r : List Wd) (n : Nat) (hn : n < 60) : keyK (d + 1) (atomW w :: atomW (printS l) :: r) n = .ok (.mk 11 [] [] 0 l [], r, n + 1) := by
  rw [keyK_cons, if_neg (by omega)]
  show plainK (keyK d) w (atomW (printS l) :: r) (n + 1) = _
  unfold plainK
  rw [hw]
  have e1 : sysK [85, 73, 68] = none := by decide
  have e2 : ¬ 0 < numsK [85, 73, 68] := by decide
  rw [e1]
  simp only
  rw [if_neg e2]
  show (match parseS (printS l) with | .error e => Except.error e | .ok r' => .ok (KeyP.mk 11 [] [] 0 r' [], r, n + 1)) = _
  rw [parse_print h]
theorem parse_uid {l : List Rg} (h : rightS l = true) : parseK [atomW [85, 73, 68], atomW (printS l)] = .ok (.mk 11 [] [] 0 l []) := by
  unfold parseK keysK loopK
  rw [key_uidP h _ (by decide) 6 [] 0 (by decide)]
  rfl
theorem parse_uid2 {l : List Rg} (h : rightS l = true) : parseK [atomW [117, 105, 100], atomW (printS l), atomW (printS l)] = .ok (.mk 15 [] [] 0 [] [.mk 11 [] [] 0 l [], .mk 12 [] [] 0 l []]) := by
  have e : keyK 7 [atomW [117, 105, 100], atomW (printS l), atomW (printS l)] 0 = .ok (.mk 11 [] [] 0 l [], [atomW (printS l)], 1) := key_uidP h _ (by decide) 6 _ 0 (by decide)
  have e2 : keyK 7 [atomW (printS l)] 1 = .ok (.mk 12 [] [] 0 l [], [], 2) := key_setP h 6 [] 1 (by decide)
  unfold parseK keysK
  rw [show ([atomW [117, 105, 100], atomW (printS l), atomW (printS l)]).length + 1 = 4 by rfl, loopK, e]
  simp only [List.cons_ne_nil, if_false, reduceCtorEq]
  rw [loopK, e2]
  rfl
/-- a word that asks for a number, and one -/
theorem parse_num (w : List UInt8) (c : Int) (hc : numsK (greatL w) = c) (h0 : 0 < c) (hs : sysK (greatL w) = none) (n : Nat) (hn : n ≤ 2147483647) : parseK [atomW w, atomW (Lib.itoa n)] = .ok (.mk c [] [] n [] []) := by
  have hnum : numK (Lib.itoa n) = some (n : Int) := by
    unfold numK
    rw [itoa_nat, atoi_itoa n (by omega)]
    simp only
    rw [if_pos ⟨by omega, by omega, by rw [itoa_nat]⟩]
  have e : keyK 7 [atomW w, atomW (Lib.itoa n)] 0 = .ok (.mk c [] [] n [] [], [], 1) := by
    rw [keyK_cons, if_neg (by decide)]
    show plainK (keyK 6) w [atomW (Lib.itoa n)] 1 = _
    unfold plainK
    rw [hs]
    simp only
    rw [hc, if_pos h0]
    show (match (match numK (Lib.itoa n) with | some v => Except.ok (v, ([] : List Wd)) | none => .error 3) with | .error e => Except.error e | .ok (v, l') => .ok (KeyP.mk c [] [] v [] [], l', 1)) = _
    rw [hnum]
  unfold parseK keysK loopK
  rw [e]
  rfl

/-! ## the logic -/
theorem keys_one {f : List Wd → Nat → KeyE} {l : List Wd} {n : Nat} {k : KeyP} {a : Nat} (h : f l n = .ok (k, [], a)) : keysK f l n = .ok (k, a) := by
  unfold keysK loopK
  rw [h]; rfl
theorem keyK_word (d : Nat) (w : List UInt8) (r : List Wd) (n : Nat) (hn : ¬ 60 < n + 1) : keyK (d + 1) (atomW w :: r) n = plainK (keyK d) w r (n + 1) := by
  rw [keyK_cons, if_neg hn]; rfl
theorem keyK_list (d : Nat) (l : List Wd) (r : List Wd) (n : Nat) (hn : ¬ 60 < n + 1) : keyK (d + 1) (listW l :: r) n = match keysK (keyK d) l (n + 1) with | .error e => .error e | .ok (k, n') => .ok (k, r, n') := by
  rw [keyK_cons, if_neg hn]; rfl
/-- a list, as a key, is what its words are -/
theorem list_is {d d' n m a b : Nat} {l r : List Wd} {k k' : KeyP} {r' : List Wd} (h1 : keysK (keyK d) l n = .ok (k, a)) (h2 : keyK d' (listW l :: r) m = .ok (k', r', b)) : k' = k ∧ r' = r := by
  cases d' with
  | zero => rw [keyK_zero] at h2; cases h2
  | succ d' =>
    by_cases hm : 60 < m + 1
    · rw [keyK_cons, if_pos hm] at h2; cases h2
    · rw [keyK_list _ _ _ _ hm] at h2
      cases hk : keysK (keyK d') l (m + 1) with
      | error e => rw [hk] at h2; cases h2
      | ok x =>
        obtain ⟨k2, b2⟩ := x
        rw [hk] at h2
        have := keys_agree (key_agree d d') h1 hk
        cases h2
        exact ⟨this.symm, rfl⟩
theorem plain_more (f : List Wd → Nat → KeyE) (w : List UInt8) (l : List Wd) (n : Nat) (h1 : sysK (greatL w) = none) (h2 : ¬ 0 < numsK (greatL w)) : plainK f w l n = moreK f w (greatL w) l n := by
  unfold plainK
  rw [h1]
  simp only
  rw [if_neg h2]
theorem parse_parts {l : List Wd} {k : KeyP} (h : parseK l = .ok k) : ∃ a, keysK (keyK 7) l 0 = .ok (k, a) := by
  unfold parseK at h
  split at h
  · cases h
  · rename_i k' a hk
    cases h
    exact ⟨a, hk⟩
theorem loop_two {f : List Wd → Nat → KeyE} {x y : Wd} {k : List KeyP} {a : Nat} (h : loopK f 3 [x, y] 0 [] = .ok (k, a)) (hc : ∀ p r b, f [x, y] 0 = .ok (p, r, b) → r = [y]) : ∃ p b q r c, f [x, y] 0 = .ok (p, [y], b) ∧ f [y] b = .ok (q, r, c) ∧ (r = [] → k = [p, q]) := by
  rw [loopK] at h
  cases hf : f [x, y] 0 with
  | error e => rw [hf] at h; cases h
  | ok z =>
    obtain ⟨p, r, b⟩ := z
    obtain rfl := hc p r b hf
    rw [hf] at h
    simp only [List.cons_ne_nil, if_false, reduceCtorEq] at h
    rw [loopK] at h
    cases hg : f [y] b with
    | error e => rw [hg] at h; cases h
    | ok u =>
      obtain ⟨q, r2, c⟩ := u
      rw [hg] at h
      refine ⟨p, b, q, r2, c, rfl, hg, fun hr => ?_⟩
      simp only [hr, if_true] at h
      cases h
      rfl
theorem one_of {f : List Wd → Nat → KeyE} {l : List Wd} {n : Nat} {k : KeyP} {a : Nat} (h : keysK f l n = .ok (k, a)) (hc : ∀ p r b, f l n = .ok (p, r, b) → r = []) : ∃ b, f l n = .ok (k, [], b) := by
  unfold keysK at h
  rw [loopK] at h
  cases hf : f l n with
  | error e => rw [hf] at h; cases h
  | ok z =>
    obtain ⟨p, r, b⟩ := z
    obtain rfl := hc p r b hf
    rw [hf] at h
    simp only [if_true] at h
    cases h
    exact ⟨_, rfl⟩
theorem not_is {a : List Wd} {ka k : KeyP} {f g : Nat} (d n : Nat) (ha : keysK (keyK f) a g = .ok (ka, n)) {e m b : Nat} {r : List Wd} (h : keyK e [atomW [78, 79, 84], listW a] m = .ok (k, r, b)) : k = notK ka ∧ r = [] := by
  cases e with
  | zero => rw [keyK_zero] at h; cases h
  | succ e =>
    by_cases hm : 60 < m + 1
    · rw [keyK_cons, if_pos hm] at h; cases h
    · rw [keyK_word _ _ _ _ hm, plain_more _ _ _ _ (by decide) (by decide)] at h
      have h' : (match keyK e [listW a] (m + 1) with | .error x => Except.error x | .ok (k, l', n') => .ok (notK k, l', n')) = .ok (k, r, b) := h
      cases hk : keyK e [listW a] (m + 1) with
      | error x => rw [hk] at h'; cases h'
      | ok z =>
        obtain ⟨k2, r2, b2⟩ := z
        obtain ⟨rfl, rfl⟩ := list_is ha hk
        rw [hk] at h'
        cases h'
        exact ⟨rfl, rfl⟩
theorem or_is {a c : List Wd} {ka kc k : KeyP} {f g f' g' n n' : Nat} (ha : keysK (keyK f) a g = .ok (ka, n)) (hc : keysK (keyK f') c g' = .ok (kc, n')) (w : List UInt8) (hw : greatL w = [79, 82]) {e m b : Nat} {r : List Wd} (h : keyK e [atomW w, listW a, listW c] m = .ok (k, r, b)) : k = .mk 14 [] [] 0 [] [ka, kc] ∧ r = [] := by
  cases e with
  | zero => rw [keyK_zero] at h; cases h
  | succ e =>
    by_cases hm : 60 < m + 1
    · rw [keyK_cons, if_pos hm] at h; cases h
    · rw [keyK_word _ _ _ _ hm, plain_more _ _ _ _ (by rw [hw]; decide) (by rw [hw]; decide), hw] at h
      have h' : (match keyK e [listW a, listW c] (m + 1) with | .error x => Except.error x | .ok (k1, l1, n1) => match keyK e l1 n1 with | .error x => Except.error x | .ok (k2, l2, n2) => .ok (KeyP.mk 14 [] [] 0 [] [k1, k2], l2, n2)) = .ok (k, r, b) := h
      cases hk : keyK e [listW a, listW c] (m + 1) with
      | error x => rw [hk] at h'; cases h'
      | ok z =>
        obtain ⟨k1, r1, b1⟩ := z
        obtain ⟨rfl, rfl⟩ := list_is ha hk
        rw [hk] at h'
        simp only at h'
        cases hk2 : keyK e [listW c] b1 with
        | error x => rw [hk2] at h'; cases h'
        | ok z =>
          obtain ⟨k2, r2, b2⟩ := z
          obtain ⟨rfl, rfl⟩ := list_is hc hk2
          rw [hk2] at h'
          cases h'
          exact ⟨rfl, rfl⟩
theorem law_not {a : List Wd} {ka k : KeyP} (ha : parseK a = .ok ka) (h : parseK [atomW [78, 79, 84], listW a] = .ok k) : k = notK ka := by
  obtain ⟨n, hn⟩ := parse_parts ha
  obtain ⟨m, hm⟩ := parse_parts h
  obtain ⟨b, hb⟩ := one_of hm (fun p r b hp => (not_is 0 n hn hp).2)
  exact (not_is 0 n hn hb).1
theorem law_or {a c : List Wd} {ka kc k : KeyP} (ha : parseK a = .ok ka) (hc : parseK c = .ok kc) (h : parseK [atomW [111, 114], listW a, listW c] = .ok k) : k = .mk 14 [] [] 0 [] [ka, kc] := by
  obtain ⟨n, hn⟩ := parse_parts ha
  obtain ⟨n', hn'⟩ := parse_parts hc
  obtain ⟨m, hm⟩ := parse_parts h
  obtain ⟨b, hb⟩ := one_of hm (fun p r b hp => (or_is hn hn' _ (by decide) hp).2)
  exact (or_is hn hn' _ (by decide) hb).1
theorem law_and {a c : List Wd} {ka kc k : KeyP} (ha : parseK a = .ok ka) (hc : parseK c = .ok kc) (h : parseK [listW a, listW c] = .ok k) : k = .mk 15 [] [] 0 [] [ka, kc] := by
  obtain ⟨n, hn⟩ := parse_parts ha
  obtain ⟨n', hn'⟩ := parse_parts hc
  obtain ⟨m, hm⟩ := parse_parts h
  unfold keysK at hm
  cases hl : loopK (keyK 7) 3 [listW a, listW c] 0 [] with
  | error e => rw [show ([listW a, listW c]).length + 1 = 3 by rfl, hl] at hm; cases hm
  | ok z =>
    obtain ⟨ks, u⟩ := z
    rw [show ([listW a, listW c]).length + 1 = 3 by rfl, hl] at hm
    obtain ⟨p, b, q, r, d, h1, h2, h3⟩ := loop_two hl (fun p r b hp => (list_is hn hp).2)
    obtain ⟨rfl, -⟩ := list_is hn h1
    obtain ⟨rfl, rfl⟩ := list_is hn' h2
    rw [h3 rfl] at hm
    cases hm
    rfl
theorem law_none {a c : List Wd} {ka kc k : KeyP} (ha : parseK a = .ok ka) (hc : parseK c = .ok kc) (h : parseK [atomW [78, 79, 84], listW [atomW [79, 82], listW a, listW c]] = .ok k) : k = notK (.mk 14 [] [] 0 [] [ka, kc]) := by
  obtain ⟨n, hn⟩ := parse_parts ha
  obtain ⟨n', hn'⟩ := parse_parts hc
  obtain ⟨m, hm⟩ := parse_parts h
  have key : ∀ {e m b : Nat} {r : List Wd} {k : KeyP}, keyK e [atomW [78, 79, 84], listW [atomW [79, 82], listW a, listW c]] m = .ok (k, r, b) → k = notK (.mk 14 [] [] 0 [] [ka, kc]) ∧ r = [] := by
    intro e m b r k h
    cases e with
    | zero => rw [keyK_zero] at h; cases h
    | succ e =>
      by_cases hm : 60 < m + 1
      · rw [keyK_cons, if_pos hm] at h; cases h
      · rw [keyK_word _ _ _ _ hm, plain_more _ _ _ _ (by decide) (by decide)] at h
        have h' : (match keyK e [listW [atomW [79, 82], listW a, listW c]] (m + 1) with | .error x => Except.error x | .ok (k, l', n') => .ok (notK k, l', n')) = .ok (k, r, b) := h
        cases hk : keyK e [listW [atomW [79, 82], listW a, listW c]] (m + 1) with
        | error x => rw [hk] at h'; cases h'
        | ok z =>
          obtain ⟨k2, r2, b2⟩ := z
          rw [hk] at h'
          cases h'
          cases e with
          | zero => rw [keyK_zero] at hk; cases hk
          | succ e =>
            by_cases hm2 : 60 < m + 1 + 1
            · rw [keyK_cons, if_pos hm2] at hk; cases hk
            · rw [keyK_list _ _ _ _ hm2] at hk
              cases hq : keysK (keyK e) [atomW [79, 82], listW a, listW c] (m + 1 + 1) with
              | error x => rw [hq] at hk; cases hk
              | ok z =>
                obtain ⟨k3, b3⟩ := z
                rw [hq] at hk
                cases hk
                obtain ⟨b4, h4⟩ := one_of hq (fun p r b hp => (or_is hn hn' _ (by decide) hp).2)
                rw [(or_is hn hn' _ (by decide) h4).1]
                exact ⟨rfl, rfl⟩
  obtain ⟨b, hb⟩ := one_of hm (fun p r b hp => (key hp).2)
  exact (key hb).1
theorem law_all : parseK [atomW [97, 108, 108]] = .ok (.mk 1 [] [] 0 [] []) := rfl
theorem holds_not (x : LetK) (k : KeyP) : holdsK x (notK k) = !holdsK x k := by simp [notK, holdsK, holdsOne]
theorem holds_or (x : LetK) (a b : KeyP) : holdsK x (.mk 14 [] [] 0 [] [a, b]) = (holdsK x a || holdsK x b) := by simp [holdsK, holdsAny]
theorem holds_and (x : LetK) (a b : KeyP) : holdsK x (.mk 15 [] [] 0 [] [a, b]) = (holdsK x a && holdsK x b) := by simp [holdsK, holdsAll]
end Go.Proofs.YtgblgbhfgiajiaaGreatDoor
