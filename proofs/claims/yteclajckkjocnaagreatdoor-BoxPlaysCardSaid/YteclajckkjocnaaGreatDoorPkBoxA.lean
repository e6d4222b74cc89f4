/- Plain laws of a box: what Append, Flag and Expunge make of it, and that a box that may be stays one; numbers rise, and none is given twice. No program in sight. The walks over a box's Find and what it calls: rows of letters, the search. Condition: none. Worlds in which all blocks but some stay as they were; blocks of three cells. No condition beyond those each names. -/
import Derived.Deep.RegionHeld3
import Derived.Test.YteclajckkjocnaaGreatDoorPkBytes
import Derived.Test.YteclajckkjocnaaGreatDoorPkShelf
import Derived.Test.YteclajckkjocnaaGreatDoorPkContS
import Derived.Test.YteclajckkjocnaaGreatDoorPkPFlags2
namespace Go.Proofs.YteclajckkjocnaaGreatDoor
set_option linter.unusedSimpArgs false
/-- a letter -/
structure Let where
  uid : Int
  flags : List (List UInt8)
  day : Int
  text : List UInt8
/-- a box -/
structure BoxP where
  valid : Int
  next : Int
  ls : List Let
def maxN : Int := 2147483647
/-- a letter that may be, behind the number last -/
def letOk (next last : Int) (x : Let) : Bool := decide (setF x.flags = .inr x.flags) && decide (last < x.uid) && decide (x.uid < next) && decide (0 ≤ x.day) && decide (x.day ≤ maxN) && decide (x.text.length ≤ 2000)
def boxRL (next : Int) : Int → List Let → Bool
  | _, [] => true
  | last, x :: r => letOk next last x && boxRL next x.uid r
def numB (n : Int) : Bool := decide (1 ≤ n) && decide (n ≤ maxN)
/-- a box that may be -/
def rightB (b : BoxP) : Bool := boxRL b.next 0 b.ls && numB b.valid && numB b.next && decide (b.ls.length ≤ 60)
theorem letOk_iff {next last : Int} {x : Let} : letOk next last x = true ↔ setF x.flags = .inr x.flags ∧ last < x.uid ∧ x.uid < next ∧ 0 ≤ x.day ∧ x.day ≤ maxN ∧ x.text.length ≤ 2000 := by
  unfold letOk
  simp only [Bool.and_eq_true, decide_eq_true_eq]
  constructor
  · rintro ⟨⟨⟨⟨⟨h1, h2⟩, h3⟩, h4⟩, h5⟩, h6⟩; exact ⟨h1, h2, h3, h4, h5, h6⟩
  · rintro ⟨h1, h2, h3, h4, h5, h6⟩; exact ⟨⟨⟨⟨⟨h1, h2⟩, h3⟩, h4⟩, h5⟩, h6⟩
theorem rightL_less {n a b : Int} (h : b ≤ a) : ∀ {l : List Let}, boxRL n a l = true → boxRL n b l = true
  | [], _ => rfl
  | x :: r, k => by
    unfold boxRL at k ⊢
    rw [Bool.and_eq_true, letOk_iff] at k ⊢
    exact ⟨⟨k.1.1, by have := k.1.2.1; omega, k.1.2.2⟩, k.2⟩
/-- a letter put behind all others -/
theorem rightL_app {n : Int} {x : Let} (hx : setF x.flags = .inr x.flags) (hu : x.uid = n) (hd : 0 ≤ x.day) (hd2 : x.day ≤ maxN) (ht : x.text.length ≤ 2000) : ∀ {last : Int} {l : List Let}, last < n → boxRL n last l = true → boxRL (n + 1) last (l ++ [x]) = true
  | last, [], h, _ => by
    show (letOk (n + 1) last x && true) = true
    rw [Bool.and_true, letOk_iff]
    exact ⟨hx, by omega, by omega, hd, hd2, ht⟩
  | last, y :: r, h, k => by
    show boxRL (n + 1) last (y :: (r ++ [x])) = true
    unfold boxRL at k ⊢
    rw [Bool.and_eq_true, letOk_iff] at k ⊢
    exact ⟨⟨k.1.1, k.1.2.1, by have := k.1.2.2.1; omega, k.1.2.2.2⟩, rightL_app hx hu hd hd2 ht (by have := k.1.2.2.1; omega) k.2⟩
/-- some letters struck -/
theorem rightL_filter {n : Int} (p : Let → Bool) : ∀ {last : Int} {l : List Let}, boxRL n last l = true → boxRL n last (l.filter p) = true
  | _, [], _ => rfl
  | last, x :: r, k => by
    unfold boxRL at k
    rw [Bool.and_eq_true] at k
    rw [List.filter_cons]
    split
    · unfold boxRL
      rw [Bool.and_eq_true]
      exact ⟨k.1, rightL_filter p k.2⟩
    · exact rightL_filter p (rightL_less (by have := (letOk_iff.1 k.1).2.1; omega) k.2)
/-- a letter's flags set anew -/
def setFl (l : List Let) (k : Nat) (f : List (List UInt8)) : List Let := match l, k with
  | [], _ => []
  | x :: r, 0 => { x with flags := f } :: r
  | x :: r, k + 1 => x :: setFl r k f
theorem setFl_len (f : List (List UInt8)) : ∀ (l : List Let) (k : Nat), (setFl l k f).length = l.length
  | [], _ => rfl
  | _ :: _, 0 => rfl
  | _ :: r, k + 1 => by show (setFl r k f).length + 1 = _; rw [setFl_len f r k]; rfl
theorem rightL_set {n : Int} {f : List (List UInt8)} (hf : setF f = .inr f) : ∀ {last : Int} {l : List Let} {k : Nat}, boxRL n last l = true → boxRL n last (setFl l k f) = true
  | _, [], k, _ => by cases k <;> rfl
  | last, x :: r, 0, h => by
    show boxRL n last ({ x with flags := f } :: r) = true
    unfold boxRL at h ⊢
    rw [Bool.and_eq_true, letOk_iff] at h ⊢
    exact ⟨⟨hf, h.1.2⟩, h.2⟩
  | last, x :: r, k + 1, h => by
    show boxRL n last (x :: setFl r k f) = true
    unfold boxRL at h ⊢
    rw [Bool.and_eq_true] at h ⊢
    exact ⟨h.1, rightL_set hf h.2⟩
/-- a set is its own set -/
theorem set_self {x : List (List UInt8)} (hs : Strict x) (hn : ∀ s ∈ x, nameF s = .inr s) (hl : x.length ≤ 12) : setF x = .inr x := by
  have h1 : ∀ s ∈ x, nm s = s := fun s h => by unfold nm; rw [hn s h]
  have h2 : x.map nm = x := (List.map_congr_left h1).trans (List.map_id _)
  have h3 : namesF x = .inr (x.map nm) := names_of (fun s h => by rw [h1 s h]; exact hn s h)
  unfold setF
  rw [h3, h2]
  show (if 12 < (canonF x).length then _ else _) = _
  rw [canon_strict hs, if_neg (by omega)]
theorem set_again {l x : List (List UInt8)} (h : setF l = .inr x) : setF x = .inr x := set_self (set_strict h) (set_names h) (set_ok h).2.2
theorem set_or {x z : List (List UInt8)} (hx : setF x = .inr x) (hz : setF z = .inr z) (hl : (canonF (x ++ z)).length ≤ 12) : setF (canonF (x ++ z)) = .inr (canonF (x ++ z)) :=
  set_self (strict_canon _) (fun s hs => by
    rw [mem_canon, List.mem_append] at hs
    exact hs.elim (set_names hx s) (set_names hz s)) hl
theorem set_not {x : List (List UInt8)} (hx : setF x = .inr x) (z : List (List UInt8)) : setF (notF x z) = .inr (notF x z) :=
  set_self (strict_not (set_strict hx) z) (fun s hs => set_names hx s ((mem_not x z s).1 hs).1) (Nat.le_trans (List.length_filter_le ..) (set_ok hx).2.2)
/-- Append: its number, or what is wrong; and the box behind it -/
def appB (b : BoxP) (l : List (List UInt8)) (day : Int) (text : List UInt8) : (Nat ⊕ Int) × BoxP :=
  if 2000 < text.length then (.inl 4, b) else match setF l with
    | .inl n => (.inl n, b)
    | .inr f => if day < 0 ∨ maxN < day then (.inl 2, b) else if 60 ≤ b.ls.length ∨ maxN ≤ b.next then (.inl 12, b)
      else (.inr b.next, { b with next := b.next + 1, ls := b.ls ++ [⟨b.next, f, day, text⟩] })
theorem right_app {b : BoxP} (h : rightB b = true) (l : List (List UInt8)) (day : Int) (text : List UInt8) : rightB (appB b l day text).2 = true := by
  unfold appB
  split
  · exact h
  · split
    · exact h
    · rename_i f hf
      split
      · exact h
      · split
        · exact h
        · rename_i h2000 hday hfull
          unfold rightB numB at h ⊢
          simp only [Bool.and_eq_true, decide_eq_true_eq] at h ⊢
          obtain ⟨⟨⟨h1, h2⟩, h3⟩, h4⟩ := h
          refine ⟨⟨⟨rightL_app (n := b.next) (x := ⟨b.next, f, day, text⟩) (set_again hf) rfl (by show 0 ≤ day; omega) (by show day ≤ maxN; omega) (by show text.length ≤ 2000; omega) (by omega) h1, h2⟩, by omega, by omega⟩, by rw [List.length_append]; simp only [List.length_cons, List.length_nil]; omega⟩
/-- the how many-th a letter is -/
def findB (l : List Let) (n : Int) : Option Nat := l.findIdx? fun x => decide (x.uid = n)
/-- what Flag makes of a letter's flags -/
def doFl (what : Int) (old f : List (List UInt8)) : Option (List (List UInt8)) := if what = 0 then some f else if what = 1 then some (canonF (old ++ f)) else if what = 2 then some (notF old f) else none
/-- Flag: what is wrong, and the box behind it -/
def flagB (b : BoxP) (uid what : Int) (l : List (List UInt8)) : Option Nat × BoxP := match findB b.ls uid with
  | none => (some 7, b)
  | some k => match setF l with
    | .inl n => (some n, b)
    | .inr f => match doFl what ((b.ls[k]?.map (·.flags)).getD []) f with
      | none => (some 1, b)
      | some g => if 12 < g.length then (some 4, b) else (none, { b with ls := setFl b.ls k g })
theorem doFl_set {what : Int} {old f g : List (List UInt8)} (ho : setF old = .inr old) (hf : setF f = .inr f) (h : doFl what old f = some g) (hl : g.length ≤ 12) : setF g = .inr g := by
  unfold doFl at h
  split at h
  · cases h; exact hf
  · split at h
    · cases h; exact set_or ho hf hl
    · split at h
      · cases h; exact set_not ho f
      · cases h
theorem rightL_at {n : Int} : ∀ {last : Int} {l : List Let} {k : Nat} {x : Let}, boxRL n last l = true → l[k]? = some x → letOk n last x = true
  | _, [], k, x, _, h => by simp at h
  | last, y :: r, 0, x, h, hx => by
    cases hx
    unfold boxRL at h
    rw [Bool.and_eq_true] at h
    exact h.1
  | last, y :: r, k + 1, x, h, hx => by
    unfold boxRL at h
    rw [Bool.and_eq_true] at h
    have := rightL_at (rightL_less (b := last) (by have := (letOk_iff.1 h.1).2.1; omega) h.2) (show r[k]? = some x from hx)
    exact this
theorem findB_some {l : List Let} {n : Int} {k : Nat} (h : findB l n = some k) : ∃ x, l[k]? = some x ∧ x.uid = n := by
  unfold findB at h
  rw [List.findIdx?_eq_some_iff_getElem] at h
  obtain ⟨hk, h1, _⟩ := h
  exact ⟨l[k], List.getElem?_eq_getElem hk, by simpa using h1⟩
theorem right_flag {b : BoxP} (h : rightB b = true) (uid what : Int) (l : List (List UInt8)) : rightB (flagB b uid what l).2 = true := by
  unfold flagB
  split
  · exact h
  · rename_i k hk
    split
    · exact h
    · rename_i f hf
      split
      · exact h
      · rename_i g hg
        split
        · exact h
        · rename_i h12
          obtain ⟨x, hx, _⟩ := findB_some hk
          rw [hx] at hg
          unfold rightB at h ⊢
          simp only [Bool.and_eq_true, decide_eq_true_eq] at h ⊢
          obtain ⟨⟨⟨h1, h2⟩, h3⟩, h4⟩ := h
          have ho := (letOk_iff.1 (rightL_at h1 hx)).1
          refine ⟨⟨⟨rightL_set (doFl_set ho (set_again hf) hg (by omega)) h1, h2⟩, h3⟩, by show (setFl _ _ _).length ≤ 60; rw [setFl_len]; exact h4⟩
/-- Expunge: the numbers of those that go, and the box behind it -/
def goesB (holds : Int → Bool) (x : Let) : Bool := decide ([92, 68, 101, 108, 101, 116, 101, 100] ∈ x.flags) && holds x.uid
def expB (b : BoxP) (holds : Int → Bool) : List Int × BoxP := ((b.ls.filter (goesB holds)).map (·.uid), { b with ls := b.ls.filter fun x => !goesB holds x })
theorem right_exp {b : BoxP} (h : rightB b = true) (holds : Int → Bool) : rightB (expB b holds).2 = true := by
  unfold rightB at h ⊢
  simp only [Bool.and_eq_true, decide_eq_true_eq] at h ⊢
  obtain ⟨⟨⟨h1, h2⟩, h3⟩, h4⟩ := h
  exact ⟨⟨⟨rightL_filter _ h1, h2⟩, h3⟩, Nat.le_trans (List.length_filter_le ..) h4⟩
/-- numbers rise: so a letter is found where it stands -/
theorem rightL_lt {n : Int} : ∀ {last : Int} {l : List Let}, boxRL n last l = true → l.Pairwise (fun x y => x.uid < y.uid) ∧ ∀ x ∈ l, last < x.uid
  | _, [], _ => ⟨List.Pairwise.nil, fun x h => by cases h⟩
  | last, x :: r, h => by
    unfold boxRL at h
    rw [Bool.and_eq_true] at h
    obtain ⟨h1, h2⟩ := rightL_lt h.2
    have hx := (letOk_iff.1 h.1).2.1
    exact ⟨List.pairwise_cons.2 ⟨h2, h1⟩, fun y hy => by
      rcases List.mem_cons.1 hy with rfl | hy
      · exact hx
      · have := h2 y hy; omega⟩
end Go.Proofs.YteclajckkjocnaaGreatDoor
namespace Go.Proofs.YteclajckkjocnaaGreatDoor
open Go.RowKit Go.Shelf Go.Sort
set_option linter.unusedSimpArgs false
/-- a row of letters -/
def LRow (w : World) (v : Value) (l : List Let) : Prop := ∃ ao cap, v = .slice ao l.length cap ∧ l.length ≤ cap ∧ (cap ≤ 9223372036854775807 ∧ (ao = none → cap = 0)) ∧ ∀ (j : Nat) (x : Let), l[j]? = some x → ∃ b off fv, ao = some ⟨b, off, none⟩ ∧ b < w.heap.size ∧ SRow w fv x.flags ∧
  w.cell? ⟨b, off + j * 4, none⟩ = some (.int .i64 x.uid) ∧ w.cell? ⟨b, off + j * 4 + 1, none⟩ = some fv ∧ w.cell? ⟨b, off + j * 4 + 2, none⟩ = some (.int .i64 x.day) ∧ w.cell? ⟨b, off + j * 4 + 3, none⟩ = some (.string ⟨x.text.toArray⟩)
theorem LRow.below {w w' : World} {v : Value} {l : List Let} (h : LRow w v l) (hb : Below w.heap.size w w') : LRow w' v l := by
  obtain ⟨ao, cap, h1, h2, h3, h4⟩ := h
  refine ⟨ao, cap, h1, h2, h3, fun j x hj => ?_⟩
  obtain ⟨b, off, fv, e1, e2, e3, c0, c1, c2, c3⟩ := h4 j x hj
  have hc := fun i => hb.cell (p := ⟨b, i, none⟩) e2
  exact ⟨b, off, fv, e1, Nat.lt_of_lt_of_le e2 hb.size, e3.below hb, (hc _).trans c0, (hc _).trans c1, (hc _).trans c2, (hc _).trans c3⟩
set_option maxRecDepth 100000 in
set_option maxHeartbeats 1000000 in
theorem fcmp_any (u d n : Int) (fv : Value) (t : ByteArray) (w : World) (_hf : fv.cells.size = 1) :
    Calls Tryz.prog 39 #[.agg #[.int .i64 u, fv, .int .i64 d, .string t], .int .i64 n] w fun e w' => e = .returned (.int .i64 (wrap64 (u - n))) ∧ Below w.heap.size w w' := by
  go_enter Tryz.func39, Tryz.ntmps39
  go_wp2_with fail
  go_ret
  exact ⟨rfl, (Below.refl _ _).alloc (Nat.le_refl _) _⟩
theorem wrap_zero {u n : Int} (h1 : 1 ≤ u) (h2 : u ≤ 2147483647) (h3 : -9223372036854775808 ≤ n) (h4 : n ≤ 9223372036854775807) (h : wrap64 (u - n) = 0) : u = n := by
  unfold wrap64 at h
  omega
theorem find_at {l : List Let} {k : Nat} {x : Let} {n : Int} (hp : l.Pairwise (fun x y => x.uid < y.uid)) (hx : l[k]? = some x) (hn : x.uid = n) : findB l n = some k := by
  unfold findB
  rw [List.findIdx?_eq_some_iff_getElem]
  obtain ⟨hk, e⟩ := List.getElem?_eq_some_iff.1 hx
  refine ⟨hk, by rw [e]; simpa using hn, fun j hj => ?_⟩
  have := List.pairwise_iff_getElem.1 hp j k (by omega) hk hj
  rw [e] at this
  simp only [decide_eq_true_eq]
  omega
set_option maxRecDepth 100000 in
set_option maxHeartbeats 8000000 in
theorem bsearch_any (v : Value) (ls : List Let) (n : Int) (w : World) (hv : LRow w v ls) (hl : ls.length ≤ 1000000) (hu : ∀ x ∈ ls, 1 ≤ x.uid ∧ x.uid ≤ 2147483647) (hp : ls.Pairwise (fun x y => x.uid < y.uid)) (hn0 : -9223372036854775808 ≤ n) (hn1 : n ≤ 9223372036854775807) :
    Calls Tryz.prog 38 #[v, .int .i64 n, .func (.func 39) #[] #[]] w fun e w' => ∃ i : Nat, e = .returned (.tuple #[.int .i64 (i : Int), .bool (findB ls n).isSome]) ∧ Hid (∀ k, findB ls n = some k → i = k) ∧ Below w.heap.size w w' := by
  obtain ⟨ao, cap, rfl, hcap, ⟨hcm, _⟩, hcell⟩ := hv
  have HC := Lib.hid hcell
  have HU := Lib.hid hu
  have HP := Lib.hid hp
  have cC := fun u d fv t W h => fcmp_any u d n fv t W h
  clear hcell hu hp
  go_enter Tryz.func38, Tryz.ntmps38
  go_wp2_with fail
  go_loopg [9, 10] ls.length (fun g s9 s10 wr => ∃ i j : Nat, i + g = j ∧ j ≤ ls.length ∧ s9 = .int .i64 (i : Int) ∧ s10 = .int .i64 (j : Int) ∧ Below w.heap.size w wr ∧ Hid (∀ (k : Nat) (x : Let), ls[k]? = some x → x.uid = n → i ≤ k ∧ k ≤ j))
  case atStart => exact ⟨0, ls.length, by omega, Nat.le_refl _, rfl, rfl, Below.refl _ _, fun k x hk _ => ⟨Nat.zero_le _, by have := (List.getElem?_eq_some_iff.1 hk).1; omega⟩⟩
  case round =>
    obtain ⟨i, j, hg, hj, rfl, rfl, hbr, HI⟩ := hrel
    by_cases hlt : i < j
    · have hsum : wrap64 ((i : Int) + (j : Int)) = (i : Int) + (j : Int) := IntWalk.wrap64_in _ (by omega)
      have hltz : (i : Int) < (j : Int) := by omega
      go_upto_region 5 with fail
      obtain ⟨H, hH⟩ : ∃ H, (i + j) / 2 = H := ⟨_, rfl⟩
      have hmid : ((i : Int) + (j : Int)) / 2 = (H : Int) := by omega
      have hHj : H < j := by omega
      have hiH : i ≤ H := by omega
      have hHl : H < ls.length := by omega
      have hHz : (H : Int) < (ls.length : Int) := by omega
      obtain ⟨x, hx⟩ : ∃ x, ls[H]? = some x := ⟨ls[H], List.getElem?_eq_getElem hHl⟩
      obtain ⟨b, off, fv, rfl, hb, hf, d0, d1, d2, d3⟩ := HC.out H x hx
      have hc := fun q => hbr.cell (p := ⟨b, q, none⟩) hb
      have d0 := (hc _).trans d0
      have d1 := (hc _).trans d1
      have d2 := (hc _).trans d2
      have d3 := (hc _).trans d3
      have hux := HU.out x (List.mem_of_getElem? hx)
      obtain ⟨fa, fc, rfl, _⟩ := hf
      have cX := cC x.uid x.day (.slice fa x.flags.length fc) ⟨x.text.toArray⟩ wr rfl
      have HX := Lib.hid hx
      have hg1 : (H : Int) + 1 ≤ 1000000 := by omega
      rw [hmid]
      obtain ⟨c, hcw⟩ : ∃ c, wrap64 (x.uid - n) = c := ⟨_, rfl⟩
      rw [hcw] at cX
      have hstep : Hid ((c < 0 → ∀ (k : Nat) (z : Let), ls[k]? = some z → z.uid = n → H + 1 ≤ k ∧ k ≤ j) ∧ (¬ c < 0 → ∀ (k : Nat) (z : Let), ls[k]? = some z → z.uid = n → i ≤ k ∧ k ≤ H)) := by
        have key : ∀ (k : Nat) (z : Let), ls[k]? = some z → z.uid = n → (k < H → z.uid < x.uid) ∧ (H < k → x.uid < z.uid) ∧ c = x.uid - n := fun k z hz hzn => by
          have huz := HU.out z (List.mem_of_getElem? hz)
          refine ⟨fun h => ?_, fun h => ?_, ?_⟩
          · have := List.pairwise_iff_getElem.1 HP.out k H (List.getElem?_eq_some_iff.1 hz).1 (List.getElem?_eq_some_iff.1 hx).1 h
            rwa [(List.getElem?_eq_some_iff.1 hz).2, (List.getElem?_eq_some_iff.1 hx).2] at this
          · have := List.pairwise_iff_getElem.1 HP.out H k (List.getElem?_eq_some_iff.1 hx).1 (List.getElem?_eq_some_iff.1 hz).1 h
            rwa [(List.getElem?_eq_some_iff.1 hz).2, (List.getElem?_eq_some_iff.1 hx).2] at this
          · rw [← hcw]; exact IntWalk.wrap64_in _ (by omega)
        refine ⟨fun h k z hz hzn => ?_, fun h k z hz hzn => ?_⟩
        · obtain ⟨k1, k2, k3⟩ := key k z hz hzn
          have hi := HI.out k z hz hzn
          refine ⟨?_, hi.2⟩
          rcases Nat.lt_trichotomy k H with q | q | q
          · have := k1 q; omega
          · subst q
            rw [hx] at hz; cases hz; omega
          · omega
        · obtain ⟨k1, k2, k3⟩ := key k z hz hzn
          have hi := HI.out k z hz hzn
          refine ⟨hi.1, ?_⟩
          rcases Nat.lt_or_ge H k with q | q
          · have := k2 q; omega
          · exact q
      clear hc hx hH hmid hsum hux hcw HX
      by_cases hc0 : c < 0
      · go_wp2_with (go_at_call 39; go_loud ((with_reducible refine cX.mono ?_); rintro e w1 ⟨rfl, h⟩; have y := hbr.trans (h.mono hbr.size)))
        go_roundg (j - (H + 1))
        case measure => omega
        case rel => exact ⟨H + 1, j, by omega, hj, by go_num, rfl, y, hstep.out.1 hc0⟩
      · clear hg1
        go_wp2_with (go_at_call 39; go_loud ((with_reducible refine cX.mono ?_); rintro e w1 ⟨rfl, h⟩; have y := hbr.trans (h.mono hbr.size)))
        go_roundg (H - i)
        case measure => omega
        case rel => exact ⟨i, H, by omega, by omega, rfl, rfl, y, hstep.out.2 hc0⟩
    · obtain rfl : i = j := by omega
      have hres : ∀ k, findB ls n = some k → i = k := fun k hk => by
        obtain ⟨x, hx, hxn⟩ := findB_some hk
        have := HI.out k x hx hxn
        omega
      by_cases hil : i < ls.length
      · have hiz : (i : Int) < (ls.length : Int) := by omega
        obtain ⟨x, hx⟩ : ∃ x, ls[i]? = some x := ⟨ls[i], List.getElem?_eq_getElem hil⟩
        obtain ⟨b, off, fv, rfl, hb, hf, d0, d1, d2, d3⟩ := HC.out i x hx
        have hc := fun q => hbr.cell (p := ⟨b, q, none⟩) hb
        have d0 := (hc _).trans d0
        have d1 := (hc _).trans d1
        have d2 := (hc _).trans d2
        have d3 := (hc _).trans d3
        have hux := HU.out x (List.mem_of_getElem? hx)
        obtain ⟨fa, fc, rfl, _⟩ := hf
        have cX := cC x.uid x.day (.slice fa x.flags.length fc) ⟨x.text.toArray⟩ wr rfl
        by_cases he : x.uid = n
        · have hf2 : Hid (findB ls n = some i) := find_at HP.out hx he
          have hw0 : wrap64 (x.uid - n) = 0 := by rw [he, Int.sub_self]; exact IntWalk.wrap64_in _ (by omega)
          rw [hw0] at cX
          clear hc hx hux hw0 hres HI cC he
          go_wp2_with (go_at_call 39; go_loud ((with_reducible refine cX.mono ?_); rintro e w1 ⟨rfl, h⟩; have y := hbr.trans (h.mono hbr.size)))
          go_ret2
          exact ⟨i, by rw [hf2.out]; rfl, fun k hk => (by rw [hf2.out] at hk; cases hk; rfl), y⟩
        · have hf2 : Hid (findB ls n = none) := by
            show _ = _
            cases hf : findB ls n with
            | none => rfl
            | some k =>
              obtain ⟨z, hz, hzn⟩ := findB_some hf
              obtain rfl := hres k hf
              rw [hx] at hz; cases hz
              exact absurd hzn he
          obtain ⟨c, hcw⟩ : ∃ c, wrap64 (x.uid - n) = c := ⟨_, rfl⟩
          have hcne : ¬ c = 0 := fun e => he (wrap_zero (by omega) (by omega) hn0 hn1 (hcw.trans e))
          have hcb : (c == 0) = false := by rw [beq_eq_false_iff_ne]; exact hcne
          rw [hcw] at cX
          clear hc hx hux hcw hres HI cC he
          go_wp2_with (go_at_call 39; go_loud ((with_reducible refine cX.mono ?_); rintro e w1 ⟨rfl, h⟩; have y := hbr.trans (h.mono hbr.size)))
          go_ret2
          exact ⟨i, by rw [hf2.out]; rfl, fun k hk => (by rw [hf2.out] at hk; cases hk), y⟩
      · have hnone : findB ls n = none := by
          cases hf : findB ls n with
          | none => rfl
          | some k =>
            obtain ⟨x, hx, hxn⟩ := findB_some hf
            have := (List.getElem?_eq_some_iff.1 hx).1
            have := HI.out k x hx hxn
            omega
        have hiz : ¬ ((i : Int) < (ls.length : Int)) := by omega
        have HN := Lib.hid hnone
        clear hres HI cC hnone
        go_wp2_with fail
        go_ret2
        exact ⟨i, by rw [HN.out]; rfl, fun k hk => (by rw [HN.out] at hk; cases hk), hbr⟩
/-- a box lies in a block -/
def BoxAt (w : World) (B : Nat) (b : BoxP) : Prop := ∃ lv, w.heap[B]? = some (.cells #[.int .i64 b.valid, .int .i64 b.next, lv] 28 (0, 0)) ∧ LRow w lv b.ls
/-- a box's letters' numbers rise, and are numbers -/
def Rising (l : List Let) : Prop := (∀ x ∈ l, 1 ≤ x.uid ∧ x.uid ≤ 2147483647) ∧ l.Pairwise fun x y => x.uid < y.uid
theorem rising_of {b : BoxP} (h : rightB b = true) : Rising b.ls := by
  unfold rightB numB maxN at h
  simp only [Bool.and_eq_true, decide_eq_true_eq] at h
  obtain ⟨h1, h2⟩ := rightL_lt h.1.1.1
  refine ⟨fun x hx => ?_, h1⟩
  obtain ⟨k, hk⟩ := List.getElem?_of_mem hx
  have := letOk_iff.1 (rightL_at h.1.1.1 hk)
  omega
set_option maxRecDepth 100000 in
set_option maxHeartbeats 2000000 in
theorem find_any_box (B : Nat) (b : BoxP) (n : Int) (w : World) (hb : BoxAt w B b) (hr : Rising b.ls) (hl : b.ls.length ≤ 1000000) (hn0 : -9223372036854775808 ≤ n) (hn1 : n ≤ 9223372036854775807) :
    Calls Tryz.prog 12 #[.pointer (some ⟨B, 0, none⟩), .int .i64 n] w fun e w' => ∃ i : Nat, e = .returned (.tuple #[.int .i64 (i : Int), .bool (findB b.ls n).isSome]) ∧ Hid (∀ k, findB b.ls n = some k → i = k) ∧ Below w.heap.size w w' := by
  obtain ⟨lv, hB, hv⟩ := hb
  have cS := bsearch_any lv b.ls n w hv hl hr.1 hr.2 hn0 hn1
  obtain ⟨ao, cap, rfl, _⟩ := hv
  have d2 : w.cell? ⟨B, 2, none⟩ = some (.slice ao b.ls.length cap) := by rw [Lib.cell_of_heap hB]; rfl
  obtain ⟨R, hR⟩ : ∃ R, (findB b.ls n).isSome = R := ⟨_, rfl⟩
  rw [hR] at cS ⊢
  clear hR hr hB
  go_enter Tryz.func12, Tryz.ntmps12
  go_wp2_with (go_at_call 38; go_loud ((with_reducible refine cS.mono ?_); rintro e w1 ⟨i, rfl, hi, h⟩))
  go_ret2
  exact ⟨i, rfl, hi.out, h⟩
end Go.Proofs.YteclajckkjocnaaGreatDoor
namespace Go.Proofs.YteclajckkjocnaaGreatDoor
open Go.RowKit Go.Shelf Go.Sort
set_option linter.unusedSimpArgs false
/-- all blocks but some are as they were -/
structure Kept (S : Nat → Prop) (w w' : World) : Prop where
  os : w'.os = w.os
  tape : w'.tape = w.tape
  output : w'.output = w.output
  size : w.heap.size ≤ w'.heap.size
  block : ∀ k, k < w.heap.size → ¬ S k → w'.heap[k]? = w.heap[k]?
theorem Kept.refl (S : Nat → Prop) (w : World) : Kept S w w := ⟨rfl, rfl, rfl, Nat.le_refl _, fun _ _ _ => rfl⟩
theorem Kept.trans {S : Nat → Prop} {a b c : World} (h : Kept S a b) (k : Kept S b c) : Kept S a c := ⟨k.os.trans h.os, k.tape.trans h.tape, k.output.trans h.output, Nat.le_trans h.size k.size, fun i hi hs => (k.block i (Nat.lt_of_lt_of_le hi h.size) hs).trans (h.block i hi hs)⟩
theorem Kept.mono {S T : Nat → Prop} {a b : World} (h : Kept S a b) (hST : ∀ k, k < a.heap.size → S k → T k) : Kept T a b := ⟨h.os, h.tape, h.output, h.size, fun i hi hs => h.block i hi (fun e => hs (hST i hi e))⟩
theorem Kept.next {T : Nat → Prop} {w w1 w2 : World} (h : Kept T w w1) (hb : Below w.heap.size w1 w2) : Kept T w w2 := ⟨hb.os.trans h.os, hb.tape.trans h.tape, hb.output.trans h.output, Nat.le_trans h.size hb.size, fun k hk hs => (hb.block k hk).trans (h.block k hk hs)⟩
theorem kept_below {S : Nat → Prop} {w w' : World} (h : Below w.heap.size w w') : Kept S w w' := ⟨h.os, h.tape, h.output, h.size, fun k hk _ => h.block k hk⟩
theorem kept_grown {w w' : World} {r : Option Nat} (h : w.grownBy w' r) : Kept (fun k => r = some k) w w' := ⟨h.os, h.tape, h.output, h.size, fun k hk hs => h.block k hk (fun e => hs e.symm)⟩
theorem Kept.set {S : Nat → Prop} {w w' : World} (h : Kept S w w') {p : Addr} (hp : p.block < w.heap.size → S p.block) (u : Value) : Kept S w (w'.setCell p u) := ⟨h.os, h.tape, h.output, by rw [set_size]; exact h.size, fun k hk hs => (Below.heap_setCell w' p u k (fun e => hs (e ▸ hp (e ▸ hk)))).trans (h.block k hk hs)⟩
theorem Kept.setB {B i : Nat} {w w' : World} (h : Kept (fun k => k = B) w w') (u : Value) : Kept (fun k => k = B) w (w'.setCell ⟨B, i, none⟩ u) := h.set (fun _ => rfl) u
theorem Kept.setNew {S : Nat → Prop} {w w' : World} (h : Kept S w w') {p : Addr} (hp : w.heap.size ≤ p.block) (u : Value) : Kept S w (w'.setCell p u) := h.set (fun h => absurd h (by omega)) u
theorem Kept.alloc {S : Nat → Prop} {w w' : World} (h : Kept S w w') (o : Obj) : Kept S w (w'.alloc o) := ⟨h.os, h.tape, h.output, by rw [alloc_size]; exact Nat.le_succ_of_le h.size, fun k hk hs => (Below.heap_alloc w' o k (Nat.lt_of_lt_of_le hk h.size)).trans (h.block k hk hs)⟩
theorem Kept.below {S : Nat → Prop} {N : Nat} {w w' : World} (h : Kept S w w') (hN : N ≤ w.heap.size) (hS : ∀ k, S k → N ≤ k) : Below N w w' := ⟨h.os, h.tape, h.output, h.size, fun k hk => h.block k (Nat.lt_of_lt_of_le hk hN) (fun e => by have := hS k e; omega)⟩
theorem Kept.obj {S : Nat → Prop} {w w' : World} (h : Kept S w w') {k : Nat} {o : Obj} (hk : w.heap[k]? = some o) (hs : ¬ S k) : w'.heap[k]? = some o := (h.block k (Array.getElem?_eq_some_iff.1 hk).1 hs).trans hk
theorem three_cells {w : World} {U : Nat} {a b c : Value} {t : TypeId} {fz : Nat × Nat} (h : w.heap[U]? = some (.cells #[a, b, c] t fz)) : w.cell? ⟨U, 0, none⟩ = some a ∧ w.cell? ⟨U, 1, none⟩ = some b ∧ w.cell? ⟨U, 2, none⟩ = some c :=
  ⟨by rw [Lib.cell_of_heap h]; rfl, by rw [Lib.cell_of_heap h]; rfl, by rw [Lib.cell_of_heap h]; rfl⟩
theorem set3_1 {w : World} {U : Nat} {a b c u : Value} {t : TypeId} (h : w.heap[U]? = some (.cells #[a, b, c] t (0, 0))) : (w.setCell ⟨U, 1, none⟩ u).heap[U]? = some (.cells #[a, u, c] t (0, 0)) := by
  simp only [World.setCell, Array.getElem?_modify, if_pos, h]
  simp
theorem set3_2 {w : World} {U : Nat} {a b c u : Value} {t : TypeId} (h : w.heap[U]? = some (.cells #[a, b, c] t (0, 0))) : (w.setCell ⟨U, 2, none⟩ u).heap[U]? = some (.cells #[a, b, u] t (0, 0)) := by
  simp only [World.setCell, Array.getElem?_modify, if_pos, h]
  simp
theorem owns_val {w : World} {B : Nat} {e : TypeId} {sz : Nat} {v : Value} {n : Nat} {xs : List Value} (h : w.ownsRow B e sz v n xs) : ∃ ao cap, v = .slice ao n cap := by
  rcases h.2 with ⟨rfl, rfl⟩ | ⟨g, cap, cur, rfl, _⟩
  · exact ⟨none, 0, rfl⟩
  · exact ⟨_, _, rfl⟩
end Go.Proofs.YteclajckkjocnaaGreatDoor
