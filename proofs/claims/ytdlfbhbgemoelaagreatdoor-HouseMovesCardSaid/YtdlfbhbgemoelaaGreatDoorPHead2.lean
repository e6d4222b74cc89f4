/- Plain laws for heads, second part: where texts are split and cut, and what a parameter says. No program in sight; no condition beyond those each names. -/
import Derived.Test.YtdlfbhbgemoelaaGreatDoorPHead
import Derived.Lib.SplitLaws
namespace Go.Proofs.YtdlfbhbgemoelaaGreatDoor

theorem split_miss {s sep : List UInt8} (h : Lib.index s sep = -1) : Lib.split s sep = [s] := by
  unfold Lib.split; rw [Lib.count_miss h]; rfl
theorem split_hit {s sep : List UInt8} {i : Nat} (hs : sep ≠ []) (h : Lib.index s sep = i) : Lib.split s sep = s.take i :: Lib.split (s.drop (i + sep.length)) sep := by
  unfold Lib.split
  rw [Lib.count_hit hs h, Nat.add_comm, Lib.splitK, if_neg (by rw [h]; simp), h]
  simp
theorem indexByte_at (c : UInt8) : ∀ (a b : List UInt8), c ∉ a → Lib.indexByte (a ++ c :: b) c = a.length
  | [], b, _ => by simp [Lib.indexByte]
  | x :: a, b, h => by
    have h1 : x ≠ c := fun e => h (by simp [e])
    have h2 := indexByte_at c a b (fun e => h (by simp [e]))
    rw [List.cons_append, Lib.indexByte, if_neg (by simpa using h1), h2, if_neg (by simp)]
    simp
theorem indexByte_miss (c : UInt8) : ∀ (a : List UInt8), c ∉ a → Lib.indexByte a c = -1
  | [], _ => rfl
  | x :: a, h => by
    have h1 : x ≠ c := fun e => h (by simp [e])
    have h2 := indexByte_miss c a (fun e => h (by simp [e]))
    rw [Lib.indexByte, if_neg (by simpa using h1), h2]; rfl
theorem split_at (c : UInt8) (a b : List UInt8) (h : c ∉ a) : Lib.split (a ++ c :: b) [c] = a :: Lib.split b [c] := by
  rw [split_hit (i := a.length) (by simp) (by rw [Lib.index_one]; exact indexByte_at c a b h)]
  simp
theorem split_end (c : UInt8) (a : List UInt8) (h : c ∉ a) : Lib.split a [c] = [a] :=
  split_miss (by rw [Lib.index_one]; exact indexByte_miss c a h)
theorem cut_at (c : UInt8) (a b : List UInt8) (h : c ∉ a) : Lib.cut (a ++ c :: b) [c] = (a, b, true) := by
  unfold Lib.cut
  rw [Lib.index_one, indexByte_at c a b h, if_pos (by omega)]
  simp
theorem cut_miss (c : UInt8) (a : List UInt8) (h : c ∉ a) : Lib.cut a [c] = (a, [], false) := by
  unfold Lib.cut
  rw [Lib.index_one, indexByte_miss c a h, if_neg (by omega)]

/-- what has no blank at its ends stays -/
theorem dropWhile_id {p : UInt8 → Bool} : ∀ (l : List UInt8), (∀ c, l.head? = some c → p c = false) → l.dropWhile p = l
  | [], _ => rfl
  | c :: l, h => by rw [List.dropWhile_cons, h c rfl]; rfl
theorem trimS_id (l cs : List UInt8) (h1 : ∀ c, l.head? = some c → cs.contains c = false) (h2 : ∀ c, l.getLast? = some c → cs.contains c = false) : Lib.trimS l cs = l := by
  unfold Lib.trimS Lib.trimRightS Lib.trimLeftS
  rw [dropWhile_id l.reverse (by intro c hc; rw [List.head?_reverse] at hc; exact h2 c hc), List.reverse_reverse, dropWhile_id l h1]
theorem trimLeft_cons (c : UInt8) (l cs : List UInt8) (h : cs.contains c = true) : Lib.trimLeftS (c :: l) cs = Lib.trimLeftS l cs := by
  unfold Lib.trimLeftS; rw [List.dropWhile_cons, h]; rfl
theorem trimRight_snoc (c : UInt8) (l cs : List UInt8) (h : cs.contains c = true) : Lib.trimRightS (l ++ [c]) cs = Lib.trimRightS l cs := by
  unfold Lib.trimRightS; rw [List.reverse_append]; simp only [List.reverse_cons, List.reverse_nil, List.nil_append, List.singleton_append]; rw [List.dropWhile_cons, h]; rfl
theorem trimS_snoc (c : UInt8) (l cs : List UInt8) (h : cs.contains c = true) : Lib.trimS (l ++ [c]) cs = Lib.trimS l cs := by
  unfold Lib.trimS; rw [trimRight_snoc c l cs h]
theorem dropWhile_last {p : UInt8 → Bool} : ∀ (l : List UInt8) (x : UInt8), l.getLast? = some x → p x = false → ∃ r, l.dropWhile p = r ++ [x]
  | [], x, h, _ => by simp at h
  | c :: l, x, h, hx => by
    rw [List.dropWhile_cons]
    by_cases hc : p c = true
    · rw [if_pos hc]
      cases l with
      | nil => simp at h; subst h; rw [hx] at hc; cases hc
      | cons d l => exact dropWhile_last (d :: l) x (by simpa using h) hx
    · rw [if_neg hc]
      obtain ⟨r, hr⟩ := List.getLast?_eq_some_iff.1 h
      exact ⟨r, hr⟩
theorem dropWhile_all {p : UInt8 → Bool} : ∀ (l : List UInt8), l.dropWhile p = [] ↔ ∀ x ∈ l, p x = true
  | [] => by simp
  | c :: l => by
    rw [List.dropWhile_cons]
    by_cases hc : p c = true
    · rw [if_pos hc, dropWhile_all l]; simp [hc]
    · rw [if_neg hc]; simp [hc]
theorem trimS_cons (c : UInt8) (l cs : List UInt8) (h : cs.contains c = true) : Lib.trimS (c :: l) cs = Lib.trimS l cs := by
  unfold Lib.trimS
  cases hl : l.reverse.dropWhile (cs.contains ·) with
  | nil =>
    have hall : ∀ x ∈ l.reverse, cs.contains x = true := by
      rw [dropWhile_all] at hl
      exact fun x hx => hl x hx
    have h2 : (c :: l).reverse.dropWhile (cs.contains ·) = [] := by
      rw [dropWhile_all]
      intro x hx
      rw [List.reverse_cons, List.mem_append] at hx
      rcases hx with hx | hx
      · exact hall x hx
      · simp at hx; rw [hx]; exact h
    unfold Lib.trimRightS
    rw [h2, hl]
  | cons d r =>
    have h2 : (c :: l).reverse.dropWhile (cs.contains ·) = (d :: r) ++ [c] := by
      rw [List.reverse_cons, List.dropWhile_append, hl]
      simp
    unfold Lib.trimRightS
    rw [h2, hl, List.reverse_append]
    exact trimLeft_cons c _ cs h

theorem noAny {v cs : List UInt8} (h : Lib.containsAny v cs = false) : ∀ c ∈ v, cs.contains c = false := by
  intro c hc
  obtain ⟨i, hi, hci⟩ := List.getElem_of_mem hc
  cases hcc : cs.contains c with
  | false => rfl
  | true =>
    exfalso
    have key : ∀ (l : List UInt8) (i : Nat) (hi : i < l.length), cs.contains l[i] = true → Lib.containsAny l cs = true := by
      intro l
      induction l with
      | nil => intro i hi; simp at hi
      | cons x l ih =>
        intro i hi hx
        unfold Lib.containsAny Lib.indexAny
        by_cases h0 : cs.contains x = true
        · rw [if_pos h0]; rfl
        · rw [if_neg h0]
          cases i with
          | zero => exact absurd hx h0
          | succ i =>
            have := ih i (by simpa using hi) (by simpa using hx)
            unfold Lib.containsAny at this
            have h3 : 0 ≤ Lib.indexAny l cs := by simpa using this
            rw [if_neg (by simp; omega)]
            simp; omega
    have := key v i hi (by rw [hci]; exact hcc)
    rw [h] at this
    cases this

theorem get_small (l : List Fld) (n : List UInt8) : getF l (smallL n) = getF l n := by unfold getF; simp only [small_small]
theorem get_great (l : List Fld) (n : List UInt8) : getF l (greatL n) = getF l n := by unfold getF; simp only [small_great]
theorem only_small (l : List Fld) (n : List UInt8) : onlyF l [smallL n] = onlyF l [n] := by unfold onlyF; simp only [List.any_cons, List.any_nil, small_small]
theorem only_great (l : List Fld) (n : List UInt8) : onlyF l [greatL n] = onlyF l [n] := by unfold onlyF; simp only [List.any_cons, List.any_nil, small_great]
theorem get_only (l : List Fld) (n : List UInt8) : getF l n = (onlyF l [n]).head?.map (·.2) := by
  unfold getF onlyF
  rw [List.head?_filter]
  simp only [List.any_cons, List.any_nil, Bool.or_false]

section
variable (v : List UInt8) (h : Lib.containsAny v [59, 34, 61, 32, 9] = false)
include h
theorem v_no (c : UInt8) (hc : [59, 34, 61, 32, 9].contains c = true) : c ∉ v := fun hm => by rw [noAny h c hm] at hc; cases hc
theorem v_trim : trimB v = v := by
  refine trimS_id v _ ?_ ?_
  · intro c hc
    have := noAny h c (List.mem_of_mem_head? hc)
    simp only [List.contains_cons, List.contains_nil, Bool.or_false, Bool.or_eq_false_iff] at this ⊢
    exact ⟨this.2.2.2.1, this.2.2.2.2⟩
  · intro c hc
    have := noAny h c (List.mem_of_getLast? hc)
    simp only [List.contains_cons, List.contains_nil, Bool.or_false, Bool.or_eq_false_iff] at this ⊢
    exact ⟨this.2.2.2.1, this.2.2.2.2⟩
variable (hne : v ≠ [])
include hne
theorem v_quot : quotL v = v := by
  unfold quotL
  rw [if_neg]
  rintro ⟨_, h2, _⟩
  cases v with
  | nil => exact hne rfl
  | cons c r =>
    simp at h2
    subst h2
    exact v_no (34 :: r) h 34 (by decide) (by simp)
theorem param_one : paramL ([120, 59, 32, 121, 61, 122, 59, 32, 80, 32, 61, 32] ++ v ++ [32, 59, 113]) [112] = some v := by
  have e : ([120, 59, 32, 121, 61, 122, 59, 32, 80, 32, 61, 32] ++ v ++ [32, 59, 113] : List UInt8) = [120] ++ 59 :: ([32, 121, 61, 122] ++ 59 :: (([32, 80, 32, 61, 32] ++ v ++ [32]) ++ 59 :: [113])) := by simp
  have h59 := v_no v h 59 (by decide)
  have h61 := v_no v h 61 (by decide)
  have e2 : ([32, 80, 32, 61, 32] ++ v ++ [32] : List UInt8) = [32, 80, 32] ++ 61 :: (32 :: (v ++ [32])) := by simp
  unfold paramL
  rw [e, split_at _ _ _ (by decide), split_at _ _ _ (by decide), split_at _ _ _ (by simp; exact h59), split_end _ _ (by decide)]
  show paramF [112] [[32, 121, 61, 122], _, _] = _
  have c1 : Lib.cut [32, 121, 61, 122] [61] = ([32, 121], [122], true) := by decide +kernel
  have t1 : (smallL (trimB [32, 121]) != smallL [112]) = true := by decide +kernel
  have t2 : (smallL (trimB [32, 80, 32]) != smallL [112]) = false := by decide +kernel
  rw [paramF, c1]
  simp only [t1, Bool.not_true, Bool.false_or, if_true]
  rw [paramF, e2, cut_at _ _ _ (by decide)]
  simp only [t2, Bool.not_true, Bool.false_or, Bool.false_eq_true, if_false]
  have t3 : trimB (32 :: (v ++ [32])) = v := by
    unfold trimB
    rw [trimS_cons _ _ _ (by decide), trimS_snoc _ _ _ (by decide)]
    exact v_trim v h
  rw [t3, v_quot v h hne]
omit h hne in
theorem glast : ((34 : UInt8) :: (v ++ [34])).getLast? = some 34 := by rw [← List.cons_append, List.getLast?_append]; rfl
omit hne in
theorem param_two : paramL ([120, 59, 32, 112, 61, 34] ++ v ++ [34]) [80] = some v := by
  have e : ([120, 59, 32, 112, 61, 34] ++ v ++ [34] : List UInt8) = [120] ++ 59 :: ([32, 112, 61, 34] ++ v ++ [34]) := by simp
  have h59 := v_no v h 59 (by decide)
  have e2 : ([32, 112, 61, 34] ++ v ++ [34] : List UInt8) = [32, 112] ++ 61 :: (34 :: (v ++ [34])) := by simp
  unfold paramL
  rw [e, split_at _ _ _ (by decide), split_end _ _ (by simp; exact h59)]
  show paramF [80] [_] = _
  have t2 : (smallL (trimB [32, 112]) != smallL [80]) = false := by decide +kernel
  rw [paramF, e2, cut_at _ _ _ (by decide)]
  simp only [t2, Bool.not_true, Bool.false_or, Bool.false_eq_true, if_false]
  have t3 : trimB (34 :: (v ++ [34])) = 34 :: (v ++ [34]) := by
    refine trimS_id _ _ ?_ ?_
    · intro c hc; simp at hc; subst hc; decide
    · intro c hc
      have : (34 :: (v ++ [34])).getLast? = some (34 : UInt8) := glast v
      rw [this] at hc
      cases hc; decide
  rw [t3]
  unfold quotL
  rw [if_pos ⟨by simp, rfl, by rw [List.getLastD_eq_getLast?, glast]; rfl⟩]
  simp
omit hne in
theorem param_three : paramL ([112, 61] ++ v) [112] = none := by
  have h59 := v_no v h 59 (by decide)
  unfold paramL
  rw [split_end _ _ (by simp; exact h59)]
  rfl
end
end Go.Proofs.YtdlfbhbgemoelaaGreatDoor
