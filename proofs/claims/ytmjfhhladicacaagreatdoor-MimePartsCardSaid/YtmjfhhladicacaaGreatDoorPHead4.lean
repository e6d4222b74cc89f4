/- Plain laws for heads, fourth part: the document's ways to split a text and to read its lines are the program's. No program in sight; no condition beyond those each names. -/
import Derived.Test.YtmjfhhladicacaaGreatDoorPHead3
namespace Go.Proofs.YtmjfhhladicacaaGreatDoor

/-- where the empty line is, told by the first line's end -/
theorem index4_step : ∀ (r : List UInt8) (k : Nat), Lib.index r [13, 10] = k →
    Lib.index r [13, 10, 13, 10] = (if Lib.hasPrefix (r.drop (k + 2)) [13, 10] then (k : Int) else if Lib.index (r.drop (k + 2)) [13, 10, 13, 10] < 0 then -1 else (k : Int) + 2 + Lib.index (r.drop (k + 2)) [13, 10, 13, 10])
  | [], k, h => by simp [Lib.index] at h
  | b :: l, k, h => by
    have hge := Lib.index_ge
    unfold Lib.index at h
    by_cases hp : List.isPrefixOf [13, 10] (b :: l) = true
    · rw [if_pos hp] at h
      have hk : k = 0 := by omega
      subst hk
      obtain ⟨r, hr⟩ : ∃ r, b :: l = 13 :: 10 :: r := by
        obtain ⟨t, ht⟩ := List.isPrefixOf_iff_prefix.1 hp
        exact ⟨t, ht.symm⟩
      rw [hr]
      show _ = if Lib.hasPrefix r [13, 10] then _ else if Lib.index r [13, 10, 13, 10] < 0 then _ else _ + Lib.index r [13, 10, 13, 10]
      have e1 : List.isPrefixOf [13, 10, 13, 10] (13 :: 10 :: r) = Lib.hasPrefix r [13, 10] := by simp [List.isPrefixOf, Lib.hasPrefix]
      have e2 : List.isPrefixOf [13, 10, 13, 10] (10 :: r) = false := by simp [List.isPrefixOf]
      have hg := hge r [13, 10, 13, 10]
      rw [Lib.index, e1]
      by_cases h1 : Lib.hasPrefix r [13, 10] = true
      · rw [if_pos h1, if_pos h1]; rfl
      · have e3 : Lib.index (10 :: r) [13, 10, 13, 10] = if Lib.index r [13, 10, 13, 10] = -1 then -1 else Lib.index r [13, 10, 13, 10] + 1 := by
          rw [Lib.index, e2]
          by_cases h2 : Lib.index r [13, 10, 13, 10] = -1
          · rw [if_pos h2, h2]; rfl
          · have h3 : (Lib.index r [13, 10, 13, 10] == -1) = false := by simpa using h2
            rw [h3, if_neg h2]; rfl
        rw [if_neg h1, if_neg h1, e3]
        by_cases h2 : Lib.index r [13, 10, 13, 10] = -1
        · rw [h2]; rfl
        · have h4 : (Lib.index r [13, 10, 13, 10] + 1 == -1) = false := by rw [beq_eq_false_iff_ne]; omega
          rw [if_neg h2, h4, if_neg (by decide), if_neg (by omega)]
          simp; omega
    · rw [if_neg hp] at h
      have hm : Lib.index l [13, 10] ≠ -1 := by
        intro e; rw [e] at h; simp at h
      have hm2 : (Lib.index l [13, 10] == -1) = false := by simpa using hm
      rw [hm2, if_neg (by decide)] at h
      have hg := hge l [13, 10]
      obtain ⟨j, rfl⟩ : ∃ j, k = j + 1 := ⟨k - 1, by omega⟩
      have ih := index4_step l j (by omega)
      have e4 : List.isPrefixOf [13, 10, 13, 10] (b :: l) = false := by
        cases hq : List.isPrefixOf [13, 10, 13, 10] (b :: l) with
        | false => rfl
        | true =>
          exfalso; apply hp
          rw [List.isPrefixOf_iff_prefix] at hq ⊢
          exact List.IsPrefix.trans ⟨[13, 10], rfl⟩ hq
      rw [Lib.index, e4, if_neg (by decide), ih]
      have e5 : (b :: l).drop (j + 1 + 2) = l.drop (j + 2) := by
        rw [show j + 1 + 2 = (j + 2) + 1 by omega, List.drop_succ_cons]
      rw [e5]
      have hg2 := hge (l.drop (j + 2)) [13, 10, 13, 10]
      by_cases h1 : Lib.hasPrefix (l.drop (j + 2)) [13, 10] = true
      · simp only [h1, if_true]
        have : ((j : Int) == -1) = false := by rw [beq_eq_false_iff_ne]; omega
        rw [this, if_neg (by decide)]; simp
      · simp only [h1, Bool.false_eq_true, if_false]
        by_cases h2 : Lib.index (l.drop (j + 2)) [13, 10, 13, 10] < 0
        · simp only [h2, if_true]; rfl
        · simp only [h2, if_false]
          have : ((j : Int) + 2 + Lib.index (l.drop (j + 2)) [13, 10, 13, 10] == -1) = false := by rw [beq_eq_false_iff_ne]; omega
          rw [this, if_neg (by decide)]
          simp; omega
theorem index4_none {r : List UInt8} (h : Lib.index r [13, 10] < 0) : Lib.index r [13, 10, 13, 10] = -1 := by
  have hg := Lib.index_ge r [13, 10]
  rcases Lib.index_spec r [13, 10] with ⟨_, hn⟩ | ⟨i, hi, _⟩
  · refine Lib.index_none (fun j hj => ?_)
    cases hq : Lib.occAt r [13, 10, 13, 10] j with
    | false => rfl
    | true =>
      have h2 := hn j hj
      unfold Lib.occAt at hq h2
      rw [List.isPrefixOf_iff_prefix] at hq
      have : List.isPrefixOf [13, 10] (r.drop j) = true := by
        rw [List.isPrefixOf_iff_prefix]
        exact List.IsPrefix.trans ⟨[13, 10], rfl⟩ hq
      rw [this] at h2; cases h2
  · omega

/-- a text split from a place on, at a line's beginning -/
def splFrom (s : List UInt8) (at' : Nat) : List UInt8 × List UInt8 :=
  if Lib.hasPrefix (s.drop at') [13, 10] then (s.take (at' + 2), s.drop (at' + 2))
  else if Lib.index (s.drop at') [13, 10, 13, 10] < 0 then (s, [])
  else (s.take (at' + (Lib.index (s.drop at') [13, 10, 13, 10]).toNat + 4), s.drop (at' + (Lib.index (s.drop at') [13, 10, 13, 10]).toNat + 4))
theorem splFrom_zero (s : List UInt8) : splFrom s 0 = splitHd s := by
  unfold splFrom splitHd
  simp only [List.drop_zero, Nat.zero_add]
theorem index_zero {r : List UInt8} : Lib.index r [13, 10] = 0 ↔ Lib.hasPrefix r [13, 10] = true := by
  cases r with
  | nil => simp [Lib.index, Lib.hasPrefix, List.isPrefixOf]
  | cons b l =>
    unfold Lib.index Lib.hasPrefix
    by_cases h : List.isPrefixOf [13, 10] (b :: l) = true
    · rw [if_pos h]; simp [h]
    · have hg := Lib.index_ge l [13, 10]
      rw [if_neg h]
      by_cases h2 : Lib.index l [13, 10] = -1
      · rw [h2]; simp [h]
      · have : (Lib.index l [13, 10] == -1) = false := by simpa using h2
        rw [this, if_neg (by decide)]
        constructor
        · intro h3; omega
        · intro h3; exact absurd h3 h
theorem splFrom_none {s : List UInt8} {a : Nat} (h : Lib.index (s.drop a) [13, 10] < 0) : splFrom s a = (s, []) := by
  unfold splFrom
  rw [if_neg (by rw [← index_zero]; omega), index4_none h, if_pos (by decide)]
theorem splFrom_here {s : List UInt8} {a : Nat} (h : Lib.index (s.drop a) [13, 10] = 0) : splFrom s a = (s.take (a + 2), s.drop (a + 2)) := by
  unfold splFrom
  rw [if_pos (index_zero.1 h)]
theorem splFrom_step {s : List UInt8} {a k : Nat} (h : Lib.index (s.drop a) [13, 10] = k) (hk : 0 < k) : splFrom s a = splFrom s (a + k + 2) := by
  have h4 := index4_step _ _ h
  have hg := Lib.index_ge ((s.drop a).drop (k + 2)) [13, 10, 13, 10]
  unfold splFrom
  rw [if_neg (by rw [← index_zero, h]; omega), h4, List.drop_drop, show a + (k + 2) = a + k + 2 by omega]
  rw [List.drop_drop, show a + (k + 2) = a + k + 2 by omega] at hg
  by_cases h1 : Lib.hasPrefix (s.drop (a + k + 2)) [13, 10] = true
  · simp only [h1, if_true]
    rw [if_neg (by omega), Int.toNat_natCast, show a + k + 4 = a + k + 2 + 2 by omega]
  · simp only [h1, Bool.false_eq_true, if_false]
    by_cases h2 : Lib.index (s.drop (a + k + 2)) [13, 10, 13, 10] < 0
    · simp only [h2, if_true]; rfl
    · simp only [h2, if_false]
      rw [if_neg (by omega)]
      have : ((k : Int) + 2 + Lib.index (s.drop (a + k + 2)) [13, 10, 13, 10]).toNat = k + 2 + (Lib.index (s.drop (a + k + 2)) [13, 10, 13, 10]).toNat := by omega
      rw [this, show a + (k + 2 + (Lib.index (s.drop (a + k + 2)) [13, 10, 13, 10]).toNat) + 4 = a + k + 2 + (Lib.index (s.drop (a + k + 2)) [13, 10, 13, 10]).toNat + 4 by omega]

/-- a field's name, as the document tells it: what stands ahead of the first : -/
theorem cut_index (l : List UInt8) (c : UInt8) : (Lib.cut l [c]).2.2 = decide (0 ≤ Lib.indexByte l c) ∧ (0 ≤ Lib.indexByte l c → (Lib.cut l [c]).1 = l.take (Lib.indexByte l c).toNat ∧ (Lib.cut l [c]).2.1 = l.drop ((Lib.indexByte l c).toNat + 1)) := by
  unfold Lib.cut
  rw [Lib.index_one]
  by_cases h : 0 ≤ Lib.indexByte l c
  · rw [if_pos h]
    exact ⟨by simp [h], fun _ => ⟨rfl, rfl⟩⟩
  · rw [if_neg h]
    exact ⟨by simp [h], fun h2 => absurd h2 h⟩
theorem indexByte_lt (l : List UInt8) (c : UInt8) : Lib.indexByte l c < l.length ∨ Lib.indexByte l c = -1 := by
  induction l with
  | nil => right; rfl
  | cons b l ih =>
    unfold Lib.indexByte
    split
    · left; simp
    · split
      · right; rfl
      · rename_i h
        have h2 : Lib.indexByte l c ≠ -1 := by simpa using h
        left
        rcases ih with ih | ih
        · simp only [List.length_cons]; omega
        · exact absurd ih h2
theorem before_first (l : List UInt8) (c : UInt8) : ∀ x ∈ l.take (Lib.indexByte l c).toNat, x ≠ c := by
  induction l with
  | nil => intro x hx; simp at hx
  | cons b l ih =>
    intro x hx
    unfold Lib.indexByte at hx
    by_cases h : (b == c) = true
    · rw [if_pos h] at hx; simp at hx
    · rw [if_neg h] at hx
      have hg := Lib.indexByte_ge l c
      by_cases h2 : (Lib.indexByte l c == -1) = true
      · rw [if_pos h2] at hx; simp at hx
      · rw [if_neg h2] at hx
        have h3 : Lib.indexByte l c ≠ -1 := by simpa using h2
        have : (Lib.indexByte l c + 1).toNat = (Lib.indexByte l c).toNat + 1 := by omega
        rw [this, List.take_succ_cons, List.mem_cons] at hx
        rcases hx with rfl | hx
        · simpa using h
        · exact ih x hx
/-- a name is right where each of its bytes is one from 33 to 126, and it has from 1 to 60 -/
theorem name_ref {l : List UInt8} {k : Nat} (hk : Lib.indexByte l 58 = k) (hl : k ≤ l.length) :
    nameL (l.take k) = ((l.take k).all (fun c => decide (33 ≤ c.toNat) && decide (c.toNat ≤ 126)) && (decide (1 ≤ k) && decide (k ≤ 60))) := by
  unfold nameL
  have h1 : (l.take k).all nameC = (l.take k).all (fun c => decide (33 ≤ c.toNat) && decide (c.toNat ≤ 126)) := by
    have hb := before_first l 58
    rw [hk, Int.toNat_natCast] at hb
    generalize l.take k = m at hb
    induction m with
    | nil => rfl
    | cons a m ih =>
      rw [List.all_cons, List.all_cons, ih (fun x hx => hb x (by simp [hx]))]
      have : (a != 58) = true := by simpa using hb a (by simp)
      unfold nameC
      rw [this, Bool.and_true]
  have h2 : (l.take k).length = k := by rw [List.length_take]; omega
  have h3 : (!(l.take k).isEmpty) = decide (1 ≤ k) := by
    cases hm : l.take k with
    | nil => rw [hm] at h2; simp at h2; subst h2; rfl
    | cons a m => rw [hm] at h2; simp at h2; simp; omega
  rw [h1, h2, h3]
end Go.Proofs.YtmjfhhladicacaaGreatDoor
