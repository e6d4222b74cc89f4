/- Plain laws of a view: what Look makes of it, and what it tells. No program in sight. Plain laws of posts: what one does to a box; that a box that may be stays one, numbers rise, letters stay what they are. No program in sight. Plain laws: who is told all sees all. No program in sight. -/
import Derived.Test.YteclajckkjocnaaGreatDoorPkBoxA
namespace Go.Proofs.YteclajckkjocnaaGreatDoor
set_option linter.unusedSimpArgs false
/-- what is told -/
structure Nw where
  kind : Int
  n : Int
  fl : List (List UInt8)
/-- one that is seen: its number, its flags as they were told -/
abbrev Us := List (Int × List (List UInt8))
def foundB (ls : List Let) (u : Int × List (List UInt8)) : Bool := (findB ls u.1).isSome
/-- behind the places from m on -/
def curL (ls : List Let) (us : Us) (m : Nat) : Us := us.take m ++ (us.drop m).filter (foundB ls)
theorem curL_all (ls : List Let) (us : Us) : curL ls us us.length = us := by unfold curL; simp
theorem curL_none (ls : List Let) (us : Us) : curL ls us 0 = us.filter (foundB ls) := by unfold curL; simp
theorem curL_at {ls : List Let} {us : Us} {m : Nat} {u : Int × List (List UInt8)} (h : us[m]? = some u) : (curL ls us (m + 1))[m]? = some u := by
  have hm := (List.getElem?_eq_some_iff.1 h).1
  unfold curL
  rw [List.getElem?_append_left (by rw [List.length_take]; omega), List.getElem?_take, if_pos (by omega), h]
theorem curL_len {ls : List Let} {us : Us} {m : Nat} (h : m ≤ us.length) : m ≤ (curL ls us m).length := by
  unfold curL
  rw [List.length_append, List.length_take]
  omega
theorem curL_le (ls : List Let) (us : Us) (m : Nat) : (curL ls us m).length ≤ us.length := by
  unfold curL
  have := List.length_filter_le (foundB ls) (us.drop m)
  rw [List.length_append, List.length_take]
  rw [List.length_drop] at this
  omega
theorem curL_yes {ls : List Let} {us : Us} {m : Nat} {u : Int × List (List UInt8)} (h : us[m]? = some u) (hf : foundB ls u = true) : curL ls us m = curL ls us (m + 1) := by
  obtain ⟨hm, e⟩ := List.getElem?_eq_some_iff.1 h
  unfold curL
  rw [List.take_add_one, h, List.drop_eq_getElem_cons hm, e, List.filter_cons, if_pos hf]
  simp
theorem curL_no {ls : List Let} {us : Us} {m : Nat} {u : Int × List (List UInt8)} (h : us[m]? = some u) (hf : foundB ls u = false) : curL ls us m = (curL ls us (m + 1)).eraseIdx m := by
  obtain ⟨hm, e⟩ := List.getElem?_eq_some_iff.1 h
  have hl : (us.take m).length = m := by rw [List.length_take]; omega
  unfold curL
  rw [List.take_add_one, h, List.drop_eq_getElem_cons hm, e, List.filter_cons, if_neg (by rw [hf]; decide), List.append_assoc, List.eraseIdx_append_of_length_le (by omega), hl, Nat.sub_self]
  rfl
theorem map_erase {α β : Type} (f : α → β) : ∀ (l : List α) (i : Nat), (l.eraseIdx i).map f = (l.map f).eraseIdx i
  | [], i => by simp
  | _ :: _, 0 => rfl
  | x :: r, i + 1 => by
    show f x :: (r.eraseIdx i).map f = f x :: (r.map f).eraseIdx i
    rw [map_erase f r i]
/-- those that are gone, the last first: of the last c places -/
def goneL (ls : List Let) (us : Us) : Nat → List Nw
  | 0 => []
  | c + 1 => goneL ls us c ++ match us[us.length - 1 - c]? with
    | some u => if foundB ls u then [] else [⟨1, (us.length - c : Nat), []⟩]
    | none => []
theorem goneL_yes {ls : List Let} {us : Us} {m : Nat} {u : Int × List (List UInt8)} (h : us[m]? = some u) (hf : foundB ls u = true) : goneL ls us (us.length - m) = goneL ls us (us.length - (m + 1)) := by
  have hm := (List.getElem?_eq_some_iff.1 h).1
  rw [show us.length - m = us.length - (m + 1) + 1 by omega]
  show _ ++ _ = _
  rw [show us.length - 1 - (us.length - (m + 1)) = m by omega, h]
  simp [hf]
theorem goneL_no {ls : List Let} {us : Us} {m : Nat} {u : Int × List (List UInt8)} (h : us[m]? = some u) (hf : foundB ls u = false) : goneL ls us (us.length - m) = goneL ls us (us.length - (m + 1)) ++ [⟨1, (m + 1 : Nat), []⟩] := by
  have hm := (List.getElem?_eq_some_iff.1 h).1
  rw [show us.length - m = us.length - (m + 1) + 1 by omega]
  show _ ++ _ = _
  rw [show us.length - 1 - (us.length - (m + 1)) = m by omega, h, show us.length - (us.length - (m + 1)) = m + 1 by omega]
  simp [hf]
/-- one that is seen, with the flags it has now -/
def nowF (ls : List Let) (u : Int × List (List UInt8)) : Int × List (List UInt8) := match findB ls u.1 with
  | some k => match ls[k]? with
    | some x => (u.1, x.flags)
    | none => u
  | none => u
/-- what is told of flags that are others -/
def chF (ls : List Let) : Nat → Us → List Nw
  | _, [] => []
  | i, u :: r => (if (nowF ls u).2 = u.2 then [] else [⟨3, (i + 1 : Nat), (nowF ls u).2⟩]) ++ chF ls (i + 1) r
theorem chF_snoc (ls : List Let) (u : Int × List (List UInt8)) : ∀ (us : Us) (i : Nat), chF ls i (us ++ [u]) = chF ls i us ++ if (nowF ls u).2 = u.2 then [] else [⟨3, (i + us.length + 1 : Nat), (nowF ls u).2⟩]
  | [], i => by simp [chF]
  | x :: r, i => by
    show _ ++ chF ls (i + 1) (r ++ [u]) = (_ ++ chF ls (i + 1) r) ++ _
    rw [chF_snoc ls u r (i + 1), List.append_assoc, show i + 1 + r.length = i + (x :: r).length by simp; omega]
theorem nowF_fst (ls : List Let) (u : Int × List (List UInt8)) : (nowF ls u).1 = u.1 := by
  unfold nowF
  split
  · split <;> rfl
  · rfl
/-- the flags told anew, of the first k -/
def stF (ls : List Let) (us : Us) (k : Nat) : Us := (us.take k).map (nowF ls) ++ us.drop k
theorem stF_len (ls : List Let) (us : Us) (k : Nat) : (stF ls us k).length = us.length := by
  unfold stF
  rw [List.length_append, List.length_map, List.length_take, List.length_drop]
  omega
theorem stF_zero (ls : List Let) (us : Us) : stF ls us 0 = us := by unfold stF; simp
theorem stF_all (ls : List Let) (us : Us) : stF ls us us.length = us.map (nowF ls) := by unfold stF; simp
theorem stF_set {ls : List Let} {us : Us} {k : Nat} {u : Int × List (List UInt8)} (h : us[k]? = some u) : (stF ls us (k + 1)).map (·.2) = ((stF ls us k).map (·.2)).set k (nowF ls u).2 := by
  obtain ⟨hk, e⟩ := List.getElem?_eq_some_iff.1 h
  have hl : ((us.take k).map (nowF ls)).length = k := by rw [List.length_map, List.length_take]; omega
  unfold stF
  rw [List.take_add_one, h, List.drop_eq_getElem_cons hk, e, List.map_append, List.map_append, List.map_append, List.map_append]
  have hl2 : (((us.take k).map (nowF ls)).map (·.2)).length = k := by rw [List.length_map]; exact hl
  rw [List.set_append_right _ _ (by omega), hl2, Nat.sub_self]
  simp
theorem stF_same {ls : List Let} {us : Us} {k : Nat} {u : Int × List (List UInt8)} (h : us[k]? = some u) (hn : (nowF ls u).2 = u.2) : (stF ls us (k + 1)).map (·.2) = (stF ls us k).map (·.2) := by
  obtain ⟨hk, e⟩ := List.getElem?_eq_some_iff.1 h
  rw [stF_set h, hn]
  apply List.ext_getElem?
  intro i
  rw [List.getElem?_set]
  split
  · rename_i hik
    subst hik
    have hlt : k < ((stF ls us k).map (·.2)).length := by rw [List.length_map, stF_len]; exact hk
    rw [if_pos hlt]
    unfold stF
    rw [List.map_append, List.getElem?_append_right (by simp; omega), List.drop_eq_getElem_cons hk, e]
    simp [Nat.min_eq_left (Nat.le_of_lt hk)]
  · rfl
theorem stF_at {ls : List Let} {us : Us} {k : Nat} {u : Int × List (List UInt8)} (h : us[k]? = some u) : ((stF ls us k).map (·.2))[k]? = some u.2 := by
  obtain ⟨hk, e⟩ := List.getElem?_eq_some_iff.1 h
  unfold stF
  rw [List.map_append, List.getElem?_append_right (by simp; omega), List.drop_eq_getElem_cons hk, e]
  simp [Nat.min_eq_left (Nat.le_of_lt hk)]
theorem chF_take {ls : List Let} {us : Us} {k : Nat} {u : Int × List (List UInt8)} (h : us[k]? = some u) : chF ls 0 (us.take (k + 1)) = chF ls 0 (us.take k) ++ if (nowF ls u).2 = u.2 then [] else [⟨3, (k : Int) + 1, (nowF ls u).2⟩] := by
  have hk := (List.getElem?_eq_some_iff.1 h).1
  rw [List.take_add_one, h]
  show chF ls 0 (us.take k ++ [u]) = _
  rw [chF_snoc, List.length_take, Nat.min_eq_left (Nat.le_of_lt hk), Nat.zero_add]
  rfl
theorem nowF_none {ls : List Let} {u : Int × List (List UInt8)} (h : findB ls u.1 = none) : nowF ls u = u := by unfold nowF; rw [h]
theorem nowF_some {ls : List Let} {u : Int × List (List UInt8)} {k : Nat} {x : Let} (h : findB ls u.1 = some k) (hx : ls[k]? = some x) : nowF ls u = (u.1, x.flags) := by unfold nowF; rw [h]; simp only [hx]
/-- a letter seen, if it is behind all -/
def lastU (us : Us) : Option Int := us.getLast?.map (·.1)
def newB (us : Us) (x : Let) : Bool := match lastU us with
  | none => true
  | some n => decide (n < x.uid)
def addF (us : Us) (x : Let) : Us := if newB us x then us ++ [(x.uid, x.flags)] else us
def seeF (ls : List Let) (us : Us) : Us := ls.foldl addF us
theorem seeF_snoc (ls : List Let) (x : Let) (us : Us) : seeF (ls ++ [x]) us = addF (seeF ls us) x := by unfold seeF; rw [List.foldl_append]; rfl
/-- Look: what it tells, and how the box is seen behind it -/
def lookF (ls : List Let) (us : Us) (gone : Bool) : List Nw × Us :=
  let us1 := if gone then us.filter (foundB ls) else us
  let us3 := seeF ls (us1.map (nowF ls))
  ((if gone then goneL ls us us.length else []) ++ (if us1.length < us3.length then [⟨2, (us3.length : Nat), []⟩] else []) ++ chF ls 0 us1, us3)
end Go.Proofs.YteclajckkjocnaaGreatDoor
namespace Go.Proofs.YteclajckkjocnaaGreatDoor
set_option linter.unusedSimpArgs false
/-- one of a box -/
structure Pst where
  what : Int
  uid : Int
  n : Int
  flags : List (List UInt8)
  text : List UInt8
def errO : Nat ⊕ Int → Option Nat
  | .inl n => some n
  | .inr _ => none
/-- what a post leaves: refused, nothing; else numbers stay or rise by one, a letter was there with its text, or has the old next number -/
structure Stays (b b' : BoxP) (new : Prop) : Prop where
  next : b'.next = b.next ∨ b'.next = b.next + 1
  made : new → b'.next = b.next + 1
  ls : ∀ y ∈ b'.ls, (∃ z ∈ b.ls, z.uid = y.uid ∧ z.text = y.text) ∨ y.uid = b.next
theorem setFl_mem {g : List (List UInt8)} : ∀ {l : List Let} {k : Nat} {y : Let}, y ∈ setFl l k g → ∃ z ∈ l, z.uid = y.uid ∧ z.text = y.text
  | [], k, y, h => by cases k <;> cases h
  | z :: r, 0, y, h => by
    rcases List.mem_cons.1 (show y ∈ { z with flags := g } :: r from h) with rfl | h'
    · exact ⟨z, List.mem_cons_self .., rfl, rfl⟩
    · exact ⟨y, List.mem_cons_of_mem _ h', rfl, rfl⟩
  | z :: r, k + 1, y, h => by
    rcases List.mem_cons.1 (show y ∈ z :: setFl r k g from h) with rfl | h'
    · exact ⟨y, List.mem_cons_self .., rfl, rfl⟩
    · obtain ⟨q, hq, e⟩ := setFl_mem h'
      exact ⟨q, List.mem_cons_of_mem _ hq, e⟩
theorem stays_refl (b : BoxP) : Stays b b False := ⟨Or.inl rfl, fun h => h.elim, fun y hy => Or.inl ⟨y, hy, rfl, rfl⟩⟩
theorem app_stays (b : BoxP) (l : List (List UInt8)) (d : Int) (t : List UInt8) : (∃ n, (appB b l d t).1 = .inl n ∧ (appB b l d t).2 = b) ∨ (∃ n, (appB b l d t).1 = .inr n) ∧ Stays b (appB b l d t).2 True := by
  unfold appB
  split
  · exact Or.inl ⟨_, rfl, rfl⟩
  · split
    · exact Or.inl ⟨_, rfl, rfl⟩
    · split
      · exact Or.inl ⟨_, rfl, rfl⟩
      · split
        · exact Or.inl ⟨_, rfl, rfl⟩
        · refine Or.inr ⟨⟨_, rfl⟩, Or.inr rfl, fun _ => rfl, fun y hy => ?_⟩
          rcases List.mem_append.1 (show y ∈ b.ls ++ [_] from hy) with h | h
          · exact Or.inl ⟨y, h, rfl, rfl⟩
          · obtain rfl := List.mem_singleton.1 h
            exact Or.inr rfl
theorem flag_stays (b : BoxP) (u k : Int) (l : List (List UInt8)) : ((flagB b u k l).1 = none ∨ (flagB b u k l).2 = b) ∧ Stays b (flagB b u k l).2 False ∧ (flagB b u k l).2.ls.length = b.ls.length := by
  unfold flagB
  split
  · exact ⟨Or.inr rfl, stays_refl b, rfl⟩
  · split
    · exact ⟨Or.inr rfl, stays_refl b, rfl⟩
    · split
      · exact ⟨Or.inr rfl, stays_refl b, rfl⟩
      · split
        · exact ⟨Or.inr rfl, stays_refl b, rfl⟩
        · exact ⟨Or.inl rfl, ⟨Or.inl rfl, fun h => h.elim, fun y hy => Or.inl (setFl_mem hy)⟩, setFl_len _ _ _⟩
end Go.Proofs.YteclajckkjocnaaGreatDoor
namespace Go.Proofs.YteclajckkjocnaaGreatDoor
set_option linter.unusedSimpArgs false
abbrev Fl := List (List UInt8)
/-- what somebody who is told makes of one of the news -/
def tell1 (us3 : Us) (T : List Fl) (n : Nw) : List Fl := if n.kind = 1 then T.eraseIdx (n.n.toNat - 1) else if n.kind = 2 then T ++ (us3.drop T.length).map (·.2) else T.set (n.n.toNat - 1) n.fl
def tellOk (us3 : Us) (ls : List Let) (all : Bool) (T : List Fl) (n : Nw) : Prop := n.kind = 1 ∧ 1 ≤ n.n ∧ n.n ≤ T.length ∧ all = true ∨ n.kind = 2 ∧ (T.length : Int) < n.n ∧ n.n = us3.length ∧ (∀ u ∈ us3.drop T.length, foundB ls u = true) ∨ n.kind = 3 ∧ 1 ≤ n.n ∧ n.n ≤ T.length
/-- news that may be told one by one, and what is held behind them -/
def Tells (us3 : Us) (ls : List Let) (all : Bool) : List Fl → List Nw → List Fl → Prop
  | T, [], T' => T' = T
  | T, n :: r, T' => tellOk us3 ls all T n ∧ Tells us3 ls all (tell1 us3 T n) r T'
theorem Tells.app {us3 : Us} {ls : List Let} {all : Bool} : ∀ {a b : List Nw} {T U V : List Fl}, Tells us3 ls all T a U → Tells us3 ls all U b V → Tells us3 ls all T (a ++ b) V
  | [], b, T, U, V, h, k => by
    have : U = T := h
    subst this
    exact k
  | n :: r, b, T, U, V, h, k => ⟨h.1, h.2.app k⟩
/-- what somebody has seen of a box -/
structure Sees (b : BoxP) (us : Us) : Prop where
  rise : us.Pairwise (fun x y => x.1 < y.1)
  low : ∀ u ∈ us, 1 ≤ u.1 ∧ u.1 < b.next
  all : ∀ y ∈ b.ls, (∃ u ∈ us, u.1 = y.uid) ∨ ∀ u ∈ us, u.1 < y.uid
theorem right_parts {b : BoxP} (h : rightB b = true) : boxRL b.next 0 b.ls = true ∧ (1 ≤ b.next ∧ b.next ≤ 2147483647) ∧ b.ls.length ≤ 60 := by
  unfold rightB numB maxN at h
  simp only [Bool.and_eq_true, decide_eq_true_eq] at h
  exact ⟨h.1.1.1, h.1.2, h.2⟩
theorem right_uid {b : BoxP} (h : rightB b = true) {y : Let} (hy : y ∈ b.ls) : 1 ≤ y.uid ∧ y.uid < b.next := by
  obtain ⟨k, hk⟩ := List.getElem?_of_mem hy
  have := letOk_iff.1 (rightL_at (right_parts h).1 hk)
  exact ⟨by omega, this.2.2.1⟩
theorem right_rise {b : BoxP} (h : rightB b = true) : b.ls.Pairwise (fun x y => x.uid < y.uid) := (rightL_lt (right_parts h).1).1
theorem sees_open {b : BoxP} (h : rightB b = true) : Sees b (b.ls.map fun x => (x.uid, x.flags)) := by
  refine ⟨List.pairwise_map.2 (right_rise h), fun u hu => ?_, fun y hy => Or.inl ⟨(y.uid, y.flags), List.mem_map_of_mem hy, rfl⟩⟩
  obtain ⟨y, hy, rfl⟩ := List.mem_map.1 hu
  exact right_uid h hy
theorem sees_post {b b' : BoxP} {us : Us} {P : Prop} (h : Sees b us) (hs : Stays b b' P) : Sees b' us := by
  refine ⟨h.rise, fun u hu => ?_, fun y hy => ?_⟩
  · have := h.low u hu
    rcases hs.next with e | e <;> omega
  · rcases hs.ls y hy with ⟨z, hz, e, _⟩ | e
    · rw [← e]; exact h.all z hz
    · exact Or.inr (fun u hu => by have := (h.low u hu).2; omega)
def inU (T : Us) (y : Let) : Bool := T.any fun u => decide (u.1 = y.uid)
theorem inU_iff {T : Us} {y : Let} : inU T y = true ↔ ∃ u ∈ T, u.1 = y.uid := by
  unfold inU
  simp
theorem last_max {T : Us} (hr : T.Pairwise (fun x y => x.1 < y.1)) {u : Int × Fl} (hu : u ∈ T) : ∃ n, lastU T = some n ∧ u.1 ≤ n := by
  rcases List.eq_nil_or_concat T with rfl | ⟨T', v, hT⟩
  · cases hu
  · rw [List.concat_eq_append] at hT
    subst hT
    refine ⟨v.1, by simp [lastU], ?_⟩
    rcases List.mem_append.1 hu with h | h
    · have := (List.pairwise_append.1 hr).2.2 u h v (List.mem_singleton_self v)
      omega
    · obtain rfl := List.mem_singleton.1 h
      exact Int.le_refl _
theorem seeF_is : ∀ (ls : List Let) (T : Us), ls.Pairwise (fun x y => x.uid < y.uid) → T.Pairwise (fun x y => x.1 < y.1) → (∀ y ∈ ls, (∃ u ∈ T, u.1 = y.uid) ∨ ∀ u ∈ T, u.1 < y.uid) → seeF ls T = T ++ (ls.filter fun y => !inU T y).map fun y => (y.uid, y.flags)
  | [], T, _, _, _ => by show T = _; simp
  | y :: r, T, hp, hr, hall => by
    obtain ⟨h1, h2⟩ := List.pairwise_cons.1 hp
    show seeF r (addF T y) = _
    cases hi : inU T y with
    | true =>
      obtain ⟨u, hu, e⟩ := inU_iff.1 hi
      obtain ⟨n, hn, hle⟩ := last_max hr hu
      have ha : addF T y = T := by
        have hb : newB T y = false := by
          unfold newB
          rw [hn]
          exact decide_eq_false (by omega)
        unfold addF
        rw [hb]
        rfl
      rw [ha, seeF_is r T h2 hr (fun z hz => hall z (List.mem_cons_of_mem _ hz)), List.filter_cons, hi]
      rfl
    | false =>
      have hab : ∀ u ∈ T, u.1 < y.uid := by
        rcases hall y (List.mem_cons_self ..) with h | h
        · rw [inU_iff.2 h] at hi; cases hi
        · exact h
      have ha : addF T y = T ++ [(y.uid, y.flags)] := by
        have hb : newB T y = true := by
          unfold newB
          cases hl : lastU T with
          | none => rfl
          | some n =>
            have : n < y.uid := by
              unfold lastU at hl
              obtain ⟨v, hv, rfl⟩ := Option.map_eq_some_iff.1 hl
              exact hab v (List.mem_of_getLast? hv)
            exact decide_eq_true this
        unfold addF
        rw [hb]
        rfl
      have hr2 : (T ++ [(y.uid, y.flags)]).Pairwise (fun x y => x.1 < y.1) := List.pairwise_append.2 ⟨hr, List.pairwise_singleton _ _, fun u hu v hv => by
        obtain rfl := List.mem_singleton.1 hv
        exact hab u hu⟩
      have hz1 : ∀ z ∈ r, inU T z = false := fun z hz => by
        cases h : inU T z with
        | false => rfl
        | true =>
          obtain ⟨u, hu, e⟩ := inU_iff.1 h
          have := hab u hu
          have := h1 z hz
          omega
      have hz2 : ∀ z ∈ r, inU (T ++ [(y.uid, y.flags)]) z = false := fun z hz => by
        cases h : inU (T ++ [(y.uid, y.flags)]) z with
        | false => rfl
        | true =>
          obtain ⟨u, hu, e⟩ := inU_iff.1 h
          have hh := h1 z hz
          rcases List.mem_append.1 hu with h' | h'
          · have := hab u h'
            omega
          · obtain rfl := List.mem_singleton.1 h'
            simp only at e
            omega
      rw [ha, seeF_is r _ h2 hr2 (fun z hz => Or.inr (fun u hu => by
        have hh := h1 z hz
        rcases List.mem_append.1 hu with h' | h'
        · have := hab u h'; omega
        · obtain rfl := List.mem_singleton.1 h'
          exact hh)), List.filter_cons, hi]
      have e1 : (r.filter fun z => !inU (T ++ [(y.uid, y.flags)]) z) = r := List.filter_eq_self.2 (fun z hz => by rw [hz2 z hz]; rfl)
      have e2 : (r.filter fun z => !inU T z) = r := List.filter_eq_self.2 (fun z hz => by rw [hz1 z hz]; rfl)
      rw [e1]
      simp only [Bool.not_false, if_true, List.map_cons]
      rw [e2, List.append_assoc]
      rfl
theorem found_iff {ls : List Let} {u : Int × Fl} : foundB ls u = true ↔ ∃ y ∈ ls, y.uid = u.1 := by
  unfold foundB findB
  rw [List.findIdx?_isSome, List.any_eq_true]
  simp only [decide_eq_true_eq]
def seenF (ls : List Let) (us : Us) (g : Bool) : Us := if g then us.filter (foundB ls) else us
def extF (ls : List Let) (us : Us) (g : Bool) : Us := (ls.filter fun y => !inU ((seenF ls us g).map (nowF ls)) y).map fun y => (y.uid, y.flags)
theorem seenF_sub (ls : List Let) (us : Us) (g : Bool) : (seenF ls us g).Sublist us := by
  unfold seenF
  split
  · exact List.filter_sublist
  · exact List.Sublist.refl _
theorem seen_rise {b : BoxP} {us : Us} (h : Sees b us) (g : Bool) : ((seenF b.ls us g).map (nowF b.ls)).Pairwise (fun x y => x.1 < y.1) := by
  rw [List.pairwise_map]
  refine (h.rise.sublist (seenF_sub b.ls us g)).imp (fun {x y} hxy => ?_)
  rw [nowF_fst, nowF_fst]
  exact hxy
theorem seen_all {b : BoxP} {us : Us} (h : Sees b us) (g : Bool) {y : Let} (hy : y ∈ b.ls) : (∃ u ∈ (seenF b.ls us g).map (nowF b.ls), u.1 = y.uid) ∨ ∀ u ∈ (seenF b.ls us g).map (nowF b.ls), u.1 < y.uid := by
  rcases h.all y hy with ⟨u, hu, e⟩ | hlt
  · refine Or.inl ⟨nowF b.ls u, List.mem_map_of_mem ?_, by rw [nowF_fst]; exact e⟩
    unfold seenF
    split
    · exact List.mem_filter.2 ⟨hu, found_iff.2 ⟨y, hy, e.symm⟩⟩
    · exact hu
  · refine Or.inr (fun v hv => ?_)
    obtain ⟨u, hu, rfl⟩ := List.mem_map.1 hv
    rw [nowF_fst]
    exact hlt u ((seenF_sub b.ls us g).subset hu)
theorem look_is {b : BoxP} {us : Us} (hb : rightB b = true) (h : Sees b us) (g : Bool) : (lookF b.ls us g).2 = (seenF b.ls us g).map (nowF b.ls) ++ extF b.ls us g :=
  seeF_is b.ls ((seenF b.ls us g).map (nowF b.ls)) (right_rise hb) (seen_rise h g) (fun _ hy => seen_all h g hy)
theorem ext_mem {ls : List Let} {us : Us} {g : Bool} {u : Int × Fl} (hu : u ∈ extF ls us g) : ∃ y ∈ ls, inU ((seenF ls us g).map (nowF ls)) y = false ∧ u = (y.uid, y.flags) := by
  obtain ⟨y, hy, rfl⟩ := List.mem_map.1 hu
  obtain ⟨h1, h2⟩ := List.mem_filter.1 hy
  refine ⟨y, h1, ?_, rfl⟩
  cases h : inU ((seenF ls us g).map (nowF ls)) y with
  | false => rfl
  | true => rw [h] at h2; cases h2
theorem sees_look {b : BoxP} {us : Us} (hb : rightB b = true) (h : Sees b us) (g : Bool) : Sees b (lookF b.ls us g).2 := by
  rw [look_is hb h g]
  refine ⟨List.pairwise_append.2 ⟨seen_rise h g, ?_, ?_⟩, ?_, ?_⟩
  · exact List.pairwise_map.2 ((right_rise hb).sublist List.filter_sublist)
  · intro u hu v hv
    obtain ⟨y, hy, hi, rfl⟩ := ext_mem hv
    rcases seen_all h g hy with hx | hx
    · rw [inU_iff.2 hx] at hi; cases hi
    · exact hx u hu
  · intro u hu
    rcases List.mem_append.1 hu with hu | hu
    · obtain ⟨v, hv, rfl⟩ := List.mem_map.1 hu
      rw [nowF_fst]
      exact h.low v ((seenF_sub b.ls us g).subset hv)
    · obtain ⟨y, hy, _, rfl⟩ := ext_mem hu
      exact right_uid hb hy
  · intro y hy
    refine Or.inl ?_
    cases hi : inU ((seenF b.ls us g).map (nowF b.ls)) y with
    | true =>
      obtain ⟨u, hu, e⟩ := inU_iff.1 hi
      exact ⟨u, List.mem_append_left _ hu, e⟩
    | false => exact ⟨(y.uid, y.flags), List.mem_append_right _ (List.mem_map.2 ⟨y, List.mem_filter.2 ⟨hy, by rw [hi]; rfl⟩, rfl⟩), rfl⟩
theorem look_len {b : BoxP} {us : Us} (hb : rightB b = true) (h : Sees b us) (g : Bool) : (lookF b.ls us g).2.length ≤ us.length + b.ls.length := by
  rw [look_is hb h g, List.length_append, List.length_map]
  have h1 := (seenF_sub b.ls us g).length_le
  have h2 : (extF b.ls us g).length ≤ b.ls.length := by
    unfold extF
    rw [List.length_map]
    exact List.length_filter_le _ _
  omega
theorem nowF_short {ls : List Let} {K : Nat} {u : Int × Fl} (hu : u.2.length ≤ K) (hl : ∀ x ∈ ls, x.flags.length ≤ K) : (nowF ls u).2.length ≤ K := by
  cases hk : findB ls u.1 with
  | none => rw [nowF_none hk]; exact hu
  | some k =>
    obtain ⟨x, hx, _⟩ := findB_some hk
    rw [nowF_some hk hx]
    exact hl x (List.mem_of_getElem? hx)
theorem look_short {b : BoxP} {us : Us} (hb : rightB b = true) (h : Sees b us) (g : Bool) {K : Nat} (hu : ∀ u ∈ us, u.2.length ≤ K) (hl : ∀ x ∈ b.ls, x.flags.length ≤ K) : ∀ u ∈ (lookF b.ls us g).2, u.2.length ≤ K := by
  intro u hm
  rw [look_is hb h g] at hm
  rcases List.mem_append.1 hm with hm | hm
  · obtain ⟨v, hv, rfl⟩ := List.mem_map.1 hm
    exact nowF_short (hu v ((seenF_sub b.ls us g).subset hv)) hl
  · obtain ⟨y, hy, _, rfl⟩ := ext_mem hm
    exact hl y hy
end Go.Proofs.YteclajckkjocnaaGreatDoor
