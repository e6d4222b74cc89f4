/- Plain laws of a box: what Append, Flag and Expunge make of it, and that a box that may be stays one; numbers rise, and none is given twice. No program in sight. -/
import Derived.Test.YtdlfbhbgemoelaaGreatDoorPFlags2
namespace Go.Proofs.YtdlfbhbgemoelaaGreatDoor

/-- a letter -/
structure Let where
  uid : Int
  flags : List (List UInt8)
  day : Int
  text : List UInt8
/-- a box -/
structure BoxP where
  valid : Int
  next : Int
  ls : List Let
def maxN : Int := 2147483647
/-- a letter that may be, behind the number last -/
def letOk (next last : Int) (x : Let) : Bool := decide (setF x.flags = .inr x.flags) && decide (last < x.uid) && decide (x.uid < next) && decide (0 ≤ x.day) && decide (x.day ≤ maxN) && decide (x.text.length ≤ 2000)
def boxRL (next : Int) : Int → List Let → Bool
  | _, [] => true
  | last, x :: r => letOk next last x && boxRL next x.uid r
def numB (n : Int) : Bool := decide (1 ≤ n) && decide (n ≤ maxN)
/-- a box that may be -/
def rightB (b : BoxP) : Bool := boxRL b.next 0 b.ls && numB b.valid && numB b.next && decide (b.ls.length ≤ 60)

theorem letOk_iff {next last : Int} {x : Let} : letOk next last x = true ↔ setF x.flags = .inr x.flags ∧ last < x.uid ∧ x.uid < next ∧ 0 ≤ x.day ∧ x.day ≤ maxN ∧ x.text.length ≤ 2000 := by
  unfold letOk
  simp only [Bool.and_eq_true, decide_eq_true_eq]
  constructor
  · rintro ⟨⟨⟨⟨⟨h1, h2⟩, h3⟩, h4⟩, h5⟩, h6⟩; exact ⟨h1, h2, h3, h4, h5, h6⟩
  · rintro ⟨h1, h2, h3, h4, h5, h6⟩; exact ⟨⟨⟨⟨⟨h1, h2⟩, h3⟩, h4⟩, h5⟩, h6⟩
theorem rightL_next {n m : Int} (h : n ≤ m) : ∀ {last : Int} {l : List Let}, boxRL n last l = true → boxRL m last l = true
  | _, [], _ => rfl
  | last, x :: r, k => by
    unfold boxRL at k ⊢
    rw [Bool.and_eq_true, letOk_iff] at k ⊢
    exact ⟨⟨k.1.1, k.1.2.1, by have := k.1.2.2.1; omega, k.1.2.2.2⟩, rightL_next h k.2⟩
theorem rightL_less {n a b : Int} (h : b ≤ a) : ∀ {l : List Let}, boxRL n a l = true → boxRL n b l = true
  | [], _ => rfl
  | x :: r, k => by
    unfold boxRL at k ⊢
    rw [Bool.and_eq_true, letOk_iff] at k ⊢
    exact ⟨⟨k.1.1, by have := k.1.2.1; omega, k.1.2.2⟩, k.2⟩
/-- a letter put behind all others -/
theorem rightL_app {n : Int} {x : Let} (hx : setF x.flags = .inr x.flags) (hu : x.uid = n) (hd : 0 ≤ x.day) (hd2 : x.day ≤ maxN) (ht : x.text.length ≤ 2000) : ∀ {last : Int} {l : List Let}, last < n → boxRL n last l = true → boxRL (n + 1) last (l ++ [x]) = true
  | last, [], h, _ => by
    show (letOk (n + 1) last x && true) = true
    rw [Bool.and_true, letOk_iff]
    exact ⟨hx, by omega, by omega, hd, hd2, ht⟩
  | last, y :: r, h, k => by
    show boxRL (n + 1) last (y :: (r ++ [x])) = true
    unfold boxRL at k ⊢
    rw [Bool.and_eq_true, letOk_iff] at k ⊢
    exact ⟨⟨k.1.1, k.1.2.1, by have := k.1.2.2.1; omega, k.1.2.2.2⟩, rightL_app hx hu hd hd2 ht (by have := k.1.2.2.1; omega) k.2⟩
/-- some letters struck -/
theorem rightL_filter {n : Int} (p : Let → Bool) : ∀ {last : Int} {l : List Let}, boxRL n last l = true → boxRL n last (l.filter p) = true
  | _, [], _ => rfl
  | last, x :: r, k => by
    unfold boxRL at k
    rw [Bool.and_eq_true] at k
    rw [List.filter_cons]
    split
    · unfold boxRL
      rw [Bool.and_eq_true]
      exact ⟨k.1, rightL_filter p k.2⟩
    · exact rightL_filter p (rightL_less (by have := (letOk_iff.1 k.1).2.1; omega) k.2)
/-- a letter's flags set anew -/
def setFl (l : List Let) (k : Nat) (f : List (List UInt8)) : List Let := match l, k with
  | [], _ => []
  | x :: r, 0 => { x with flags := f } :: r
  | x :: r, k + 1 => x :: setFl r k f
theorem setFl_len (f : List (List UInt8)) : ∀ (l : List Let) (k : Nat), (setFl l k f).length = l.length
  | [], _ => rfl
  | _ :: _, 0 => rfl
  | _ :: r, k + 1 => by show (setFl r k f).length + 1 = _; rw [setFl_len f r k]; rfl
theorem rightL_set {n : Int} {f : List (List UInt8)} (hf : setF f = .inr f) : ∀ {last : Int} {l : List Let} {k : Nat}, boxRL n last l = true → boxRL n last (setFl l k f) = true
  | _, [], k, _ => by cases k <;> rfl
  | last, x :: r, 0, h => by
    show boxRL n last ({ x with flags := f } :: r) = true
    unfold boxRL at h ⊢
    rw [Bool.and_eq_true, letOk_iff] at h ⊢
    exact ⟨⟨hf, h.1.2⟩, h.2⟩
  | last, x :: r, k + 1, h => by
    show boxRL n last (x :: setFl r k f) = true
    unfold boxRL at h ⊢
    rw [Bool.and_eq_true] at h ⊢
    exact ⟨h.1, rightL_set hf h.2⟩
/-- a set is its own set -/
theorem set_self {x : List (List UInt8)} (hs : Strict x) (hn : ∀ s ∈ x, nameF s = .inr s) (hl : x.length ≤ 12) : setF x = .inr x := by
  have h1 : ∀ s ∈ x, nm s = s := fun s h => by unfold nm; rw [hn s h]
  have h2 : x.map nm = x := (List.map_congr_left h1).trans (List.map_id _)
  have h3 : namesF x = .inr (x.map nm) := names_of (fun s h => by rw [h1 s h]; exact hn s h)
  unfold setF
  rw [h3, h2]
  show (if 12 < (canonF x).length then _ else _) = _
  rw [canon_strict hs, if_neg (by omega)]
theorem set_again {l x : List (List UInt8)} (h : setF l = .inr x) : setF x = .inr x := set_self (set_strict h) (set_names h) (set_ok h).2.2
theorem set_or {x z : List (List UInt8)} (hx : setF x = .inr x) (hz : setF z = .inr z) (hl : (canonF (x ++ z)).length ≤ 12) : setF (canonF (x ++ z)) = .inr (canonF (x ++ z)) :=
  set_self (strict_canon _) (fun s hs => by
    rw [mem_canon, List.mem_append] at hs
    exact hs.elim (set_names hx s) (set_names hz s)) hl
theorem set_not {x : List (List UInt8)} (hx : setF x = .inr x) (z : List (List UInt8)) : setF (notF x z) = .inr (notF x z) :=
  set_self (strict_not (set_strict hx) z) (fun s hs => set_names hx s ((mem_not x z s).1 hs).1) (Nat.le_trans (List.length_filter_le ..) (set_ok hx).2.2)

/-- Append: its number, or what is wrong; and the box behind it -/
def appB (b : BoxP) (l : List (List UInt8)) (day : Int) (text : List UInt8) : (Nat ⊕ Int) × BoxP :=
  if 2000 < text.length then (.inl 4, b) else match setF l with
    | .inl n => (.inl n, b)
    | .inr f => if day < 0 ∨ maxN < day then (.inl 2, b) else if 60 ≤ b.ls.length ∨ maxN ≤ b.next then (.inl 12, b)
      else (.inr b.next, { b with next := b.next + 1, ls := b.ls ++ [⟨b.next, f, day, text⟩] })
theorem right_app {b : BoxP} (h : rightB b = true) (l : List (List UInt8)) (day : Int) (text : List UInt8) : rightB (appB b l day text).2 = true := by
  unfold appB
  split
  · exact h
  · split
    · exact h
    · rename_i f hf
      split
      · exact h
      · split
        · exact h
        · rename_i h2000 hday hfull
          unfold rightB numB at h ⊢
          simp only [Bool.and_eq_true, decide_eq_true_eq] at h ⊢
          obtain ⟨⟨⟨h1, h2⟩, h3⟩, h4⟩ := h
          refine ⟨⟨⟨rightL_app (n := b.next) (x := ⟨b.next, f, day, text⟩) (set_again hf) rfl (by show 0 ≤ day; omega) (by show day ≤ maxN; omega) (by show text.length ≤ 2000; omega) (by omega) h1, h2⟩, by omega, by omega⟩, by rw [List.length_append]; simp only [List.length_cons, List.length_nil]; omega⟩
/-- the how many-th a letter is -/
def findB (l : List Let) (n : Int) : Option Nat := l.findIdx? fun x => decide (x.uid = n)
/-- what Flag makes of a letter's flags -/
def doFl (what : Int) (old f : List (List UInt8)) : Option (List (List UInt8)) := if what = 0 then some f else if what = 1 then some (canonF (old ++ f)) else if what = 2 then some (notF old f) else none
/-- Flag: what is wrong, and the box behind it -/
def flagB (b : BoxP) (uid what : Int) (l : List (List UInt8)) : Option Nat × BoxP := match findB b.ls uid with
  | none => (some 7, b)
  | some k => match setF l with
    | .inl n => (some n, b)
    | .inr f => match doFl what ((b.ls[k]?.map (·.flags)).getD []) f with
      | none => (some 1, b)
      | some g => if 12 < g.length then (some 4, b) else (none, { b with ls := setFl b.ls k g })
theorem doFl_set {what : Int} {old f g : List (List UInt8)} (ho : setF old = .inr old) (hf : setF f = .inr f) (h : doFl what old f = some g) (hl : g.length ≤ 12) : setF g = .inr g := by
  unfold doFl at h
  split at h
  · cases h; exact hf
  · split at h
    · cases h; exact set_or ho hf hl
    · split at h
      · cases h; exact set_not ho f
      · cases h
theorem rightL_at {n : Int} : ∀ {last : Int} {l : List Let} {k : Nat} {x : Let}, boxRL n last l = true → l[k]? = some x → letOk n last x = true
  | _, [], k, x, _, h => by simp at h
  | last, y :: r, 0, x, h, hx => by
    cases hx
    unfold boxRL at h
    rw [Bool.and_eq_true] at h
    exact h.1
  | last, y :: r, k + 1, x, h, hx => by
    unfold boxRL at h
    rw [Bool.and_eq_true] at h
    have := rightL_at (rightL_less (b := last) (by have := (letOk_iff.1 h.1).2.1; omega) h.2) (show r[k]? = some x from hx)
    exact this
theorem findB_some {l : List Let} {n : Int} {k : Nat} (h : findB l n = some k) : ∃ x, l[k]? = some x ∧ x.uid = n := by
  unfold findB at h
  rw [List.findIdx?_eq_some_iff_getElem] at h
  obtain ⟨hk, h1, _⟩ := h
  exact ⟨l[k], List.getElem?_eq_getElem hk, by simpa using h1⟩
theorem right_flag {b : BoxP} (h : rightB b = true) (uid what : Int) (l : List (List UInt8)) : rightB (flagB b uid what l).2 = true := by
  unfold flagB
  split
  · exact h
  · rename_i k hk
    split
    · exact h
    · rename_i f hf
      split
      · exact h
      · rename_i g hg
        split
        · exact h
        · rename_i h12
          obtain ⟨x, hx, _⟩ := findB_some hk
          rw [hx] at hg
          unfold rightB at h ⊢
          simp only [Bool.and_eq_true, decide_eq_true_eq] at h ⊢
          obtain ⟨⟨⟨h1, h2⟩, h3⟩, h4⟩ := h
          have ho := (letOk_iff.1 (rightL_at h1 hx)).1
          refine ⟨⟨⟨rightL_set (doFl_set ho (set_again hf) hg (by omega)) h1, h2⟩, h3⟩, by show (setFl _ _ _).length ≤ 60; rw [setFl_len]; exact h4⟩
/-- Expunge: the numbers of those that go, and the box behind it -/
def goesB (holds : Int → Bool) (x : Let) : Bool := decide ([92, 68, 101, 108, 101, 116, 101, 100] ∈ x.flags) && holds x.uid
def expB (b : BoxP) (holds : Int → Bool) : List Int × BoxP := ((b.ls.filter (goesB holds)).map (·.uid), { b with ls := b.ls.filter fun x => !goesB holds x })
theorem right_exp {b : BoxP} (h : rightB b = true) (holds : Int → Bool) : rightB (expB b holds).2 = true := by
  unfold rightB at h ⊢
  simp only [Bool.and_eq_true, decide_eq_true_eq] at h ⊢
  obtain ⟨⟨⟨h1, h2⟩, h3⟩, h4⟩ := h
  exact ⟨⟨⟨rightL_filter _ h1, h2⟩, h3⟩, Nat.le_trans (List.length_filter_le ..) h4⟩
/-- numbers rise: so a letter is found where it stands -/
theorem rightL_lt {n : Int} : ∀ {last : Int} {l : List Let}, boxRL n last l = true → l.Pairwise (fun x y => x.uid < y.uid) ∧ ∀ x ∈ l, last < x.uid
  | _, [], _ => ⟨List.Pairwise.nil, fun x h => by cases h⟩
  | last, x :: r, h => by
    unfold boxRL at h
    rw [Bool.and_eq_true] at h
    obtain ⟨h1, h2⟩ := rightL_lt h.2
    have hx := (letOk_iff.1 h.1).2.1
    exact ⟨List.pairwise_cons.2 ⟨h2, h1⟩, fun y hy => by
      rcases List.mem_cons.1 hy with rfl | hy
      · exact hx
      · have := h2 y hy; omega⟩
end Go.Proofs.YtdlfbhbgemoelaaGreatDoor
