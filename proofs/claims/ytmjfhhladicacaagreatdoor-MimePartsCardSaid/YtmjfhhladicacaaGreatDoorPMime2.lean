/- Plain laws for parts, second: what is put together of texts, with a boundary that none of them has, has just these as parts. No program in sight; no condition beyond those each names. -/
import Derived.Test.YtmjfhhladicacaaGreatDoorPMime
namespace Go.Proofs.YtmjfhhladicacaaGreatDoor

def mxS : List UInt8 := [109, 117, 108, 116, 105, 112, 97, 114, 116, 47, 120]
def ctN : List UInt8 := [67, 111, 110, 116, 101, 110, 116, 45, 84, 121, 112, 101]
def vB (B : List UInt8) : List UInt8 := mxS ++ 59 :: ([32, 98, 111, 117, 110, 100, 97, 114, 121] ++ 61 :: (34 :: (B ++ [34])))
def headB (B : List UInt8) : List UInt8 := printF [(ctN, vB B)]
def blkB (B x : List UInt8) : List UInt8 := 45 :: 45 :: (B ++ 13 :: 10 :: (13 :: 10 :: (x ++ [13, 10])))
def finB (B : List UInt8) : List UInt8 := 45 :: 45 :: (B ++ 45 :: 45 :: [13, 10])
def msgB (B : List UInt8) (l : List (List UInt8)) : List UInt8 := headB B ++ (l.flatMap (blkB B) ++ finB B)

section
variable {B : List UInt8} (hB : ∀ c ∈ B, ([32, 9, 13, 10, 0, 59, 61, 34] : List UInt8).contains c = false)
include hB
theorem b_no (c : UInt8) (hc : ([32, 9, 13, 10, 0, 59, 61, 34] : List UInt8).contains c = true) : c ∉ B := fun hm => by rw [hB c hm] at hc; cases hc
theorem v_bytes : ∀ c ∈ vB B, ([13, 10, 0] : List UInt8).contains c = false := by
  intro c hc
  unfold vB at hc
  simp only [List.mem_append, List.mem_cons, List.not_mem_nil, or_false] at hc
  have h1 : ∀ c ∈ mxS, ([13, 10, 0] : List UInt8).contains c = false := by decide
  have h2 : ∀ c ∈ ([32, 98, 111, 117, 110, 100, 97, 114, 121] : List UInt8), ([13, 10, 0] : List UInt8).contains c = false := by decide
  rcases hc with h | rfl | h | rfl | rfl | h | rfl
  · exact h1 c h
  · decide
  · exact h2 c (by simpa using h)
  · decide
  · decide
  · have := hB c h
    simp only [List.contains_cons, List.contains_nil, Bool.or_false, Bool.or_eq_false_iff] at this ⊢
    exact ⟨this.2.2.1, this.2.2.2.1, this.2.2.2.2.1⟩
  · decide
theorem v_ok : OkF (ctN, vB B) := by
  refine ⟨(by decide : nameL ctN = true), bad_of (v_bytes hB), ?_, ?_⟩
  · intro c hc
    have : c = 109 := by unfold vB mxS at hc; simpa using hc.symm
    subst this; decide
  · intro c hc
    have e : vB B = (mxS ++ 59 :: ([32, 98, 111, 117, 110, 100, 97, 114, 121] ++ 61 :: (34 :: B))) ++ [34] := by unfold vB; simp
    rw [show ((ctN, vB B) : Fld).2 = vB B from rfl, e, List.getLast?_append] at hc
    cases hc; decide
theorem kind_head : kindF (headB B) = (mxS, B) := by
  have hf : fieldsL (headB B) = .inr [(ctN, vB B)] := by
    have := fields_again (l := [(ctN, vB B)]) [] (fun f hf => by simp at hf; rw [hf]; exact v_ok hB) (by simp)
    rwa [List.append_nil] at this
  unfold kindF
  rw [hf]
  have hg : getF [(ctN, vB B)] ctS = some (vB B) := by
    unfold getF
    have : (smallL ctN == smallL ctS) = true := by decide
    simp only [List.find?_cons, this, Option.map_some]
  show kindOf _ = _
  unfold kindOf
  rw [hg]
  have hc : Lib.cut (vB B) [59] = (mxS, _, true) := cut_at 59 mxS _ (by decide)
  have h59 := b_no hB 59 (by decide)
  have hp : paramL (vB B) bnS = some B := by
    have e2 : ([32, 98, 111, 117, 110, 100, 97, 114, 121] ++ 61 :: (34 :: (B ++ [34])) : List UInt8) = [32, 98, 111, 117, 110, 100, 97, 114, 121] ++ 61 :: (34 :: (B ++ [34])) := rfl
    unfold paramL vB
    rw [split_at _ _ _ (by decide), split_end _ _ (by simp; exact h59)]
    show paramF bnS [_] = _
    have t2 : (smallL (trimB [32, 98, 111, 117, 110, 100, 97, 114, 121]) != smallL bnS) = false := by decide +kernel
    rw [paramF, cut_at _ _ _ (by decide)]
    simp only [t2, Bool.not_true, Bool.false_or, Bool.false_eq_true, if_false]
    have t3 : trimB (34 :: (B ++ [34])) = 34 :: (B ++ [34]) := by
      refine trimS_id _ _ ?_ ?_
      · intro c hc; simp at hc; subst hc; decide
      · intro c hc
        have : (34 :: (B ++ [34])).getLast? = some (34 : UInt8) := glast B
        rw [this] at hc
        cases hc; decide
    rw [t3]
    unfold quotL
    rw [if_pos ⟨by simp, rfl, by rw [List.getLastD_eq_getLast?, glast]; rfl⟩]
    simp
  simp only
  rw [hp, hc]
  have ht : smallL (trimB mxS) = mxS := by decide +kernel
  rw [show (mxS, _, true).1 = mxS from rfl, ht]
  rfl
theorem split_msg (l : List (List UInt8)) : splitHd (msgB B l) = (headB B, l.flatMap (blkB B) ++ finB B) :=
  splitHd_print [(ctN, vB B)] _ (fun f hf => by simp at hf; rw [hf]; exact v_ok hB)
end

/-! ### lines -/
theorem cuts_fuel (s : List UInt8) (to : Nat) (b : List UInt8) : ∀ (g g' a : Nat) (op : Option Nat) (out : List (Nat × Nat)), to - a < g → to - a < g' → cutsF s to b g a op out = cutsF s to b g' a op out
  | 0, _, _, _, _, h, _ => absurd h (by omega)
  | g + 1, 0, _, _, _, _, h => absurd h (by omega)
  | g + 1, g' + 1, a, op, out, h, h' => by
    unfold cutsF
    by_cases hlt : a < to
    · have hn := nextOf_gt (s := s) hlt
      rw [if_pos hlt, if_pos hlt]
      rw [cuts_fuel s to b g g' (nextOf s to a) _ _ (by omega) (by omega), cuts_fuel s to b g g' (nextOf s to a) op out (by omega) (by omega)]
    · rw [if_neg hlt, if_neg hlt]
/-- cuts from a place on, to the text's end -/
def cutU (s b : List UInt8) (a : Nat) (op : Option Nat) (out : List (Nat × Nat)) : List (Nat × Nat) := cutsF s s.length b (s.length + 1) a op out
theorem cutU_step {s b : List UInt8} {a : Nat} (op : Option Nat) (out : List (Nat × Nat)) {R : List UInt8} {k : Nat} (hR : s.drop a = R) (hk : Lib.index R [13, 10] = k) :
    cutU s b a op out = if Lib.trimRightS (R.take k) [32, 9] = 45 :: 45 :: b ∨ Lib.trimRightS (R.take k) [32, 9] = 45 :: 45 :: (b ++ [45, 45]) then
        if Lib.trimRightS (R.take k) [32, 9] ≠ 45 :: 45 :: b then addCut op out a else cutU s b (a + k + 2) (some (a + k + 2)) (addCut op out a)
      else cutU s b (a + k + 2) op out := by
  have hroom := Lib.index_room R [13, 10] (by omega)
  rw [hk] at hroom
  have hRl : R.length = s.length - a := by rw [← hR, List.length_drop]
  have hk2 : k + 2 ≤ R.length := by simp at hroom; omega
  have hlt : a < s.length := by omega
  have ht : (s.drop a).take (s.length - a) = R := by rw [hR, List.take_of_length_le (by omega)]
  have he : lineEnd s s.length a = a + k := by
    unfold lineEnd
    rw [ht, hk, if_neg (by omega), Int.toNat_natCast]
  have hl : lineOf s s.length a = Lib.trimRightS (R.take k) [32, 9] := by
    unfold lineOf
    rw [he, hR, show a + k - a = k by omega]
  have hn : nextOf s s.length a = a + k + 2 := by unfold nextOf; rw [he]; omega
  unfold cutU
  rw [cutsF, if_pos hlt, hl, hn]
  rw [cuts_fuel s s.length b s.length (s.length + 1) (a + k + 2) _ _ (by omega) (by omega), cuts_fuel s s.length b s.length (s.length + 1) (a + k + 2) op out (by omega) (by omega)]
theorem trimRight_pre (l cs : List UInt8) : ∃ z, l = Lib.trimRightS l cs ++ z := by
  unfold Lib.trimRightS
  obtain ⟨a, ha⟩ := dropWhile_sub (p := (cs.contains ·)) l.reverse
  refine ⟨a.reverse, ?_⟩
  have := congrArg List.reverse ha
  rwa [List.reverse_reverse, List.reverse_append] at this
theorem trimRight_id (l cs : List UInt8) (h : ∀ c, l.getLast? = some c → cs.contains c = false) : Lib.trimRightS l cs = l := by
  unfold Lib.trimRightS
  rw [dropWhile_id l.reverse (by intro c hc; rw [List.head?_reverse] at hc; exact h c hc), List.reverse_reverse]
/-- a text without -- within: no line of it is a boundary -/
theorem cutU_text (s b : List UInt8) : ∀ (n a : Nat) (r R' : List UInt8) (op : Option Nat) (out : List (Nat × Nat)), r.length ≤ n → s.drop a = r ++ 13 :: 10 :: R' → Lib.index r [45, 45] < 0 → cutU s b a op out = cutU s b (a + r.length + 2) op out := by
  intro n
  induction n using Nat.strongRecOn with
  | ind n ih =>
    intro a r R' op out hn hR hno
    have hocc : Lib.occAt (r ++ 13 :: 10 :: R') [13, 10] r.length = true := by
      unfold Lib.occAt; rw [List.drop_append_of_le_length (Nat.le_refl _), List.drop_length, List.nil_append]; simp [List.isPrefixOf]
    rcases Lib.index_spec (r ++ 13 :: 10 :: R') [13, 10] with ⟨_, h⟩ | ⟨k, hk, _, hko, hkn⟩
    · rw [h r.length (by simp)] at hocc; cases hocc
    · have hkr : k ≤ r.length := by
        rcases Nat.lt_or_ge r.length k with h | h
        · rw [hkn r.length h] at hocc; cases hocc
        · exact h
      have htk : (r ++ 13 :: 10 :: R').take k = r.take k := List.take_append_of_le_length hkr
      have hnb : ∀ y, Lib.trimRightS (r.take k) [32, 9] ≠ 45 :: 45 :: y := by
        intro y hy
        obtain ⟨z, hz⟩ := trimRight_pre (r.take k) [32, 9]
        rw [hy] at hz
        have h0 : Lib.occAt r [45, 45] 0 = true := by
          have : r = 45 :: 45 :: (y ++ z ++ r.drop k) := by
            have e := List.take_append_drop k r
            rw [hz] at e
            exact e.symm.trans (by simp)
          unfold Lib.occAt
          rw [List.drop_zero, this]; simp [List.isPrefixOf]
        rcases Lib.index_spec r [45, 45] with ⟨_, h⟩ | ⟨i, hi, _⟩
        · rw [h 0 (Nat.zero_le _)] at h0; cases h0
        · omega
      rw [cutU_step op out hR hk, htk, if_neg (by rintro (h | h); exact hnb _ h; exact hnb _ h)]
      rcases Nat.lt_or_ge k r.length with hlt | hge
      · -- within the text
        have h2 : k + 2 ≤ r.length := by
          rcases Nat.lt_or_ge (k + 1) r.length with h | h
          · exact h
          · exfalso
            have hk1 : k + 1 = r.length := by omega
            unfold Lib.occAt at hko
            rw [List.isPrefixOf_iff_prefix] at hko
            obtain ⟨t, ht⟩ := hko
            have h1 : (r ++ 13 :: 10 :: R')[k + 1]? = some 10 := by
              have : (List.drop k (r ++ 13 :: 10 :: R'))[1]? = some 10 := by rw [← ht]; rfl
              rwa [List.getElem?_drop] at this
            rw [hk1, List.getElem?_append_right (Nat.le_refl _), Nat.sub_self] at h1
            cases h1
        have hd : s.drop (a + k + 2) = r.drop (k + 2) ++ 13 :: 10 :: R' := by
          have : s.drop (a + k + 2) = (s.drop a).drop (k + 2) := by rw [List.drop_drop]; congr 1
          rw [this, hR, List.drop_append_of_le_length h2]
        have hno2 : Lib.index (r.drop (k + 2)) [45, 45] < 0 := by
          rcases Lib.index_spec (r.drop (k + 2)) [45, 45] with ⟨h, _⟩ | ⟨i, hi, hil, hio, _⟩
          · omega
          · exfalso
            rcases Lib.index_spec r [45, 45] with ⟨_, h⟩ | ⟨j, hj, _⟩
            · have h3 := h (k + 2 + i) (by rw [List.length_drop] at hil; omega)
              unfold Lib.occAt at h3 hio
              rw [List.drop_drop] at hio
              rw [hio] at h3; cases h3
            · omega
        have hl : (r.drop (k + 2)).length = r.length - (k + 2) := by simp
        rw [ih (r.length - (k + 2)) (by omega) (a + k + 2) (r.drop (k + 2)) R' op out (by omega) hd hno2, hl]
        congr 1
        omega
      · rw [show k = r.length by omega]

/-! ### the message's parts -/
def cutsB (B : List UInt8) : Nat → List (List UInt8) → List (Nat × Nat)
  | _, [] => []
  | a, x :: l => (a + B.length + 4, a + B.length + 6 + x.length) :: cutsB B (a + B.length + 8 + x.length) l
def leavesB (B : List UInt8) : Nat → List (List UInt8) → List PT
  | _, [] => []
  | a, x :: l => .mk tpS [] (a + B.length + 6) (a + B.length + 6 + x.length) (Lib.count x [10]) [] :: leavesB B (a + B.length + 8 + x.length) l
section
variable {B : List UInt8} (hB : ∀ c ∈ B, ([32, 9, 13, 10, 0, 59, 61, 34] : List UInt8).contains c = false) (hne : B ≠ [])
include hB
theorem dash_trim (h2 : B ≠ []) : Lib.trimRightS (45 :: 45 :: B) [32, 9] = 45 :: 45 :: B := by
  refine trimRight_id _ _ ?_
  intro c hc
  have : c ∈ B := by
    cases B with
    | nil => exact absurd rfl h2
    | cons x t =>
      rw [List.getLast?_cons_cons, List.getLast?_cons_cons] at hc
      exact List.mem_of_getLast? hc
  have := hB c this
  simp only [List.contains_cons, List.contains_nil, Bool.or_false, Bool.or_eq_false_iff] at this ⊢
  exact ⟨this.1, this.2.1⟩
theorem no13 : (13 : UInt8) ∉ (45 :: 45 :: B) := by
  intro h
  simp only [List.mem_cons] at h
  rcases h with h | h | h
  · cases h
  · cases h
  · exact b_no hB 13 (by decide) h
include hne
theorem cuts_blocks (s : List UInt8) : ∀ (l : List (List UInt8)) (a : Nat) (op : Option Nat) (out : List (Nat × Nat)), s.drop a = l.flatMap (blkB B) ++ finB B → (∀ x ∈ l, Lib.index x [45, 45] < 0) → (∀ o, op = some o → o + 2 ≤ a) →
    cutU s B a op out = addCut op out a ++ cutsB B a l
  | [], a, op, out, hR, _, _ => by
    have hR2 : s.drop a = (45 :: 45 :: (B ++ [45, 45])) ++ 13 :: 10 :: [] := by rw [hR]; simp [finB]
    have hn : (13 : UInt8) ∉ (45 :: 45 :: (B ++ [45, 45])) := by
      intro h
      have := no13 hB
      simp only [List.mem_cons, List.mem_append, List.not_mem_nil, or_false] at h this
      rcases h with h | h | h | h | h
      · cases h
      · cases h
      · exact this (Or.inr (Or.inr h))
      · cases h
      · cases h
    have hk := index_crlf (45 :: 45 :: (B ++ [45, 45])) [] hn
    have ht : Lib.trimRightS (45 :: 45 :: (B ++ [45, 45])) [32, 9] = 45 :: 45 :: (B ++ [45, 45]) := by
      refine trimRight_id _ _ ?_
      intro c hc
      have e : (45 :: 45 :: (B ++ [45, 45]) : List UInt8) = (45 :: 45 :: (B ++ [45])) ++ [45] := by simp
      rw [e, List.getLast?_append] at hc
      cases hc; decide
    rw [cutU_step op out hR2 hk, List.take_left', ht, if_pos (Or.inr rfl), if_pos, cutsB, List.append_nil]
    · intro h
      have := congrArg List.length h
      simp at this
    · rfl
  | x :: l, a, op, out, hR, hno, ho => by
    have hR2 : s.drop a = (45 :: 45 :: B) ++ 13 :: 10 :: (13 :: 10 :: (x ++ 13 :: 10 :: (l.flatMap (blkB B) ++ finB B))) := by rw [hR]; simp [blkB]
    have hk := index_crlf (45 :: 45 :: B) (13 :: 10 :: (x ++ 13 :: 10 :: (l.flatMap (blkB B) ++ finB B))) (no13 hB)
    have hlen : (45 :: 45 :: B).length = B.length + 2 := rfl
    rw [cutU_step op out hR2 hk, List.take_left', dash_trim hB hne, if_pos (Or.inl rfl), if_neg (by simp), hlen]
    · have hd1 : s.drop (a + (B.length + 2) + 2) = [] ++ 13 :: 10 :: (x ++ 13 :: 10 :: (l.flatMap (blkB B) ++ finB B)) := by
        have : s.drop (a + (B.length + 2) + 2) = (s.drop a).drop (B.length + 4) := by rw [List.drop_drop]; congr 1
        rw [this, hR2, List.drop_append, List.drop_eq_nil_of_le (by show B.length + 2 ≤ _; omega)]
        simp
      have hd2 : s.drop (a + (B.length + 2) + 2 + 2) = x ++ 13 :: 10 :: (l.flatMap (blkB B) ++ finB B) := by
        have : s.drop (a + (B.length + 2) + 2 + 2) = (s.drop (a + (B.length + 2) + 2)).drop 2 := by rw [List.drop_drop]
        rw [this, hd1]; rfl
      have hd3 : s.drop (a + B.length + 8 + x.length) = l.flatMap (blkB B) ++ finB B := by
        have : s.drop (a + B.length + 8 + x.length) = (s.drop (a + (B.length + 2) + 2 + 2)).drop (x.length + 2) := by rw [List.drop_drop]; congr 1; omega
        rw [this, hd2, List.drop_append, List.drop_eq_nil_of_le (by omega)]
        simp
      rw [cutU_text s B 0 _ [] _ _ _ (Nat.le_refl _) hd1 (by decide), List.length_nil, Nat.add_zero]
      rw [cutU_text s B x.length _ x _ _ _ (Nat.le_refl _) hd2 (hno x (by simp))]
      rw [show a + (B.length + 2) + 2 + 2 + x.length + 2 = a + B.length + 8 + x.length by omega]
      rw [cuts_blocks s l (a + B.length + 8 + x.length) _ _ hd3 (fun y hy => hno y (by simp [hy])) (fun o h => by cases h; omega)]
      have ea : addCut (some (a + (B.length + 2) + 2)) (addCut op out a) (a + B.length + 8 + x.length) = addCut op out a ++ [(a + B.length + 4, a + B.length + 6 + x.length)] := by
        show addCut op out a ++ [(_, _)] = _
        congr 3 <;> omega
      rw [ea, cutsB, List.append_assoc]
      rfl
    · rfl
omit hB hne in
theorem leaf_read (s : List UInt8) (g n o : Nat) (x : List UInt8) (R : List UInt8) (h : s.drop o = 13 :: 10 :: (x ++ R)) (hn : n + 1 ≤ 30) :
    partF s (g + 1) n o (o + 2 + x.length) = (some (.mk tpS [] (o + 2) (o + 2 + x.length) (Lib.count x [10]) []), n + 1) := by
  have ht : (s.drop o).take (o + 2 + x.length - o) = 13 :: 10 :: x := by
    rw [h, show o + 2 + x.length - o = (x.length + 1) + 1 by omega, List.take_succ_cons, List.take_succ_cons, List.take_left]
  have hs : splitHd (13 :: 10 :: x) = ([13, 10], x) := by
    unfold splitHd
    rw [if_pos (by simp [Lib.hasPrefix, List.isPrefixOf])]
    rfl
  have hk : kindF [13, 10] = (tpS, []) := by decide +kernel
  unfold partF
  rw [if_neg (by omega)]
  simp only
  rw [ht, hs]
  simp only [hk]
  rw [if_neg (by decide)]
  rfl
omit hB hne in
theorem blocks_read (s : List UInt8) (g : Nat) : ∀ (l : List (List UInt8)) (a n : Nat) (out : List PT), s.drop a = l.flatMap (blkB B) ++ finB B → n + l.length ≤ 30 → partsF (partF s (g + 1)) (cutsB B a l) n out = (some (out ++ leavesB B a l), n + l.length)
  | [], a, n, out, _, _ => by simp [cutsB, partsF, leavesB]
  | x :: l, a, n, out, hR, hn => by
    simp only [List.length_cons] at hn
    have hR2 : s.drop a = (45 :: 45 :: B) ++ 13 :: 10 :: (13 :: 10 :: (x ++ 13 :: 10 :: (l.flatMap (blkB B) ++ finB B))) := by rw [hR]; simp [blkB]
    have hd1 : s.drop (a + B.length + 4) = 13 :: 10 :: (x ++ 13 :: 10 :: (l.flatMap (blkB B) ++ finB B)) := by
      have : s.drop (a + B.length + 4) = (s.drop a).drop (B.length + 4) := by rw [List.drop_drop]; congr 1
      rw [this, hR2, List.drop_append, List.drop_eq_nil_of_le (by show B.length + 2 ≤ _; omega)]
      simp
    have hd3 : s.drop (a + B.length + 8 + x.length) = l.flatMap (blkB B) ++ finB B := by
      have : s.drop (a + B.length + 8 + x.length) = (s.drop (a + B.length + 4)).drop (x.length + 4) := by rw [List.drop_drop]; congr 1; omega
      rw [this, hd1, show x.length + 4 = (x.length + 3) + 1 by omega, List.drop_succ_cons, List.drop_succ_cons, List.drop_append, List.drop_eq_nil_of_le (by omega)]
      simp
    have hl := leaf_read s g n (a + B.length + 4) x _ hd1 (by omega)
    rw [show a + B.length + 4 + 2 + x.length = a + B.length + 6 + x.length by omega, show a + B.length + 4 + 2 = a + B.length + 6 by omega] at hl
    rw [cutsB, partsF, hl]
    simp only
    rw [blocks_read s g l _ (n + 1) _ hd3 (by omega), leavesB, List.append_assoc, List.length_cons]
    congr 1
    omega
omit hB hne in
theorem leaves_len : ∀ (l : List (List UInt8)) (a : Nat), (leavesB B a l).length = l.length
  | [], _ => rfl
  | x :: l, a => by rw [leavesB, List.length_cons, List.length_cons, leaves_len l]
omit hB hne in
theorem leaves_at (s : List UInt8) : ∀ (l : List (List UInt8)) (a : Nat), s.drop a = l.flatMap (blkB B) ++ finB B → ∀ (i : Nat) (x : List UInt8), l[i]? = some x → ∃ q, (leavesB B a l)[i]? = some q ∧ q.ty = tpS ∧ q.fr ≤ q.to ∧ q.to ≤ s.length ∧ (s.drop q.fr).take (q.to - q.fr) = x
  | [], _, _, i, x, h => by simp at h
  | y :: l, a, hR, i, x, h => by
    have hR2 : s.drop a = (45 :: 45 :: B) ++ 13 :: 10 :: (13 :: 10 :: (y ++ 13 :: 10 :: (l.flatMap (blkB B) ++ finB B))) := by rw [hR]; simp [blkB]
    have hd1 : s.drop (a + B.length + 6) = y ++ 13 :: 10 :: (l.flatMap (blkB B) ++ finB B) := by
      have : s.drop (a + B.length + 6) = (s.drop a).drop (B.length + 6) := by rw [List.drop_drop]; congr 1
      rw [this, hR2, List.drop_append, List.drop_eq_nil_of_le (by show B.length + 2 ≤ _; omega), show B.length + 6 - (45 :: 45 :: B).length = 4 by show B.length + 6 - (B.length + 2) = 4; omega]
      rfl
    have hd3 : s.drop (a + B.length + 8 + y.length) = l.flatMap (blkB B) ++ finB B := by
      have : s.drop (a + B.length + 8 + y.length) = (s.drop (a + B.length + 6)).drop (y.length + 2) := by rw [List.drop_drop]; congr 1; omega
      rw [this, hd1, List.drop_append, List.drop_eq_nil_of_le (by omega)]
      simp
    have hsl : a + B.length + 6 + y.length ≤ s.length := by
      have := congrArg List.length hd1
      rw [List.length_drop, List.length_append] at this
      simp only [List.length_cons] at this
      omega
    cases i with
    | zero =>
      simp at h
      subst h
      refine ⟨_, rfl, rfl, Nat.le_add_right _ _, hsl, ?_⟩
      show (s.drop (a + B.length + 6)).take (a + B.length + 6 + y.length - (a + B.length + 6)) = y
      rw [hd1, show a + B.length + 6 + y.length - (a + B.length + 6) = y.length by omega, List.take_left]
    | succ i => exact leaves_at s l _ hd3 i x (by simpa using h)
/-- what is put together of texts has just these as parts -/
theorem compose (l : List (List UInt8)) (hl : l.length ≤ 10) (hno : ∀ x ∈ l, Lib.index x [45, 45] < 0) :
    ∃ p, partF (msgB B l) 7 0 0 (msgB B l).length = (some p, 1 + l.length) ∧ p.ty = mxS ∧ p.bd = B ∧ p.ps.length = l.length ∧
      ∀ (i : Nat) (x : List UInt8), l[i]? = some x → ∃ q, p.ps[i]? = some q ∧ q.ty = tpS ∧ q.fr ≤ q.to ∧ q.to ≤ (msgB B l).length ∧ ((msgB B l).drop q.fr).take (q.to - q.fr) = x := by
  have hd : (msgB B l).drop (headB B).length = l.flatMap (blkB B) ++ finB B := by unfold msgB; rw [List.drop_left']; rfl
  have hc := cuts_blocks hB hne (msgB B l) l (headB B).length none [] hd hno (fun o h => by cases h)
  have hr := blocks_read (B := B) (msgB B l) 5 l (headB B).length (0 + 1) [] hd (by omega)
  have hsl := split_msg hB l
  have hlen : (headB B).length ≤ (msgB B l).length := by unfold msgB; rw [List.length_append]; omega
  refine ⟨.mk mxS B (headB B).length (msgB B l).length (Lib.count (l.flatMap (blkB B) ++ finB B) [10]) (leavesB B (headB B).length l), ?_, rfl, rfl, leaves_len l _, leaves_at (msgB B l) l _ hd⟩
  unfold partF
  rw [if_neg (by decide)]
  simp only
  rw [List.drop_zero, Nat.sub_zero, List.take_length, hsl]
  simp only [kind_head hB, Nat.zero_add]
  have hm : multi (mxS, B) = true := by
    unfold multi
    rw [show Lib.hasPrefix mxS mpS = true by decide]
    cases B with
    | nil => exact absurd rfl hne
    | cons c r => rfl
  rw [if_pos hm]
  have hc2 : cutsF (msgB B l) (msgB B l).length B ((msgB B l).length + 1) (headB B).length none [] = cutsB B (headB B).length l := hc
  rw [hc2, show (0 + 1 : Nat) = 1 from rfl] at *
  rw [hr]
  rfl
end
end Go.Proofs.YtmjfhhladicacaaGreatDoor
