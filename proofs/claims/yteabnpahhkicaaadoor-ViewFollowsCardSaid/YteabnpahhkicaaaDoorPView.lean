/- Plain laws of a view: what Look makes of it, and what it tells. No program in sight. -/
import Derived.Test.YteabnpahhkicaaaDoorPBox
namespace Go.Proofs.YteabnpahhkicaaaDoor

/-- what is told -/
structure Nw where
  kind : Int
  n : Int
  fl : List (List UInt8)
/-- one that is seen: its number, its flags as they were told -/
abbrev Us := List (Int × List (List UInt8))
def foundB (ls : List Let) (u : Int × List (List UInt8)) : Bool := (findB ls u.1).isSome
/-- behind the places from m on -/
def curL (ls : List Let) (us : Us) (m : Nat) : Us := us.take m ++ (us.drop m).filter (foundB ls)
theorem curL_all (ls : List Let) (us : Us) : curL ls us us.length = us := by unfold curL; simp
theorem curL_none (ls : List Let) (us : Us) : curL ls us 0 = us.filter (foundB ls) := by unfold curL; simp
theorem curL_at {ls : List Let} {us : Us} {m : Nat} {u : Int × List (List UInt8)} (h : us[m]? = some u) : (curL ls us (m + 1))[m]? = some u := by
  have hm := (List.getElem?_eq_some_iff.1 h).1
  unfold curL
  rw [List.getElem?_append_left (by rw [List.length_take]; omega), List.getElem?_take, if_pos (by omega), h]
theorem curL_len {ls : List Let} {us : Us} {m : Nat} (h : m ≤ us.length) : m ≤ (curL ls us m).length := by
  unfold curL
  rw [List.length_append, List.length_take]
  omega
theorem curL_le (ls : List Let) (us : Us) (m : Nat) : (curL ls us m).length ≤ us.length := by
  unfold curL
  have := List.length_filter_le (foundB ls) (us.drop m)
  rw [List.length_append, List.length_take]
  rw [List.length_drop] at this
  omega
theorem curL_yes {ls : List Let} {us : Us} {m : Nat} {u : Int × List (List UInt8)} (h : us[m]? = some u) (hf : foundB ls u = true) : curL ls us m = curL ls us (m + 1) := by
  obtain ⟨hm, e⟩ := List.getElem?_eq_some_iff.1 h
  unfold curL
  rw [List.take_add_one, h, List.drop_eq_getElem_cons hm, e, List.filter_cons, if_pos hf]
  simp
theorem curL_no {ls : List Let} {us : Us} {m : Nat} {u : Int × List (List UInt8)} (h : us[m]? = some u) (hf : foundB ls u = false) : curL ls us m = (curL ls us (m + 1)).eraseIdx m := by
  obtain ⟨hm, e⟩ := List.getElem?_eq_some_iff.1 h
  have hl : (us.take m).length = m := by rw [List.length_take]; omega
  unfold curL
  rw [List.take_add_one, h, List.drop_eq_getElem_cons hm, e, List.filter_cons, if_neg (by rw [hf]; decide), List.append_assoc, List.eraseIdx_append_of_length_le (by omega), hl, Nat.sub_self]
  rfl
theorem map_erase {α β : Type} (f : α → β) : ∀ (l : List α) (i : Nat), (l.eraseIdx i).map f = (l.map f).eraseIdx i
  | [], i => by simp
  | _ :: _, 0 => rfl
  | x :: r, i + 1 => by
    show f x :: (r.eraseIdx i).map f = f x :: (r.map f).eraseIdx i
    rw [map_erase f r i]
/-- those that are gone, the last first: of the last c places -/
def goneL (ls : List Let) (us : Us) : Nat → List Nw
  | 0 => []
  | c + 1 => goneL ls us c ++ match us[us.length - 1 - c]? with
    | some u => if foundB ls u then [] else [⟨1, (us.length - c : Nat), []⟩]
    | none => []
theorem goneL_yes {ls : List Let} {us : Us} {m : Nat} {u : Int × List (List UInt8)} (h : us[m]? = some u) (hf : foundB ls u = true) : goneL ls us (us.length - m) = goneL ls us (us.length - (m + 1)) := by
  have hm := (List.getElem?_eq_some_iff.1 h).1
  rw [show us.length - m = us.length - (m + 1) + 1 by omega]
  show _ ++ _ = _
  rw [show us.length - 1 - (us.length - (m + 1)) = m by omega, h]
  simp [hf]
theorem goneL_no {ls : List Let} {us : Us} {m : Nat} {u : Int × List (List UInt8)} (h : us[m]? = some u) (hf : foundB ls u = false) : goneL ls us (us.length - m) = goneL ls us (us.length - (m + 1)) ++ [⟨1, (m + 1 : Nat), []⟩] := by
  have hm := (List.getElem?_eq_some_iff.1 h).1
  rw [show us.length - m = us.length - (m + 1) + 1 by omega]
  show _ ++ _ = _
  rw [show us.length - 1 - (us.length - (m + 1)) = m by omega, h, show us.length - (us.length - (m + 1)) = m + 1 by omega]
  simp [hf]
/-- one that is seen, with the flags it has now -/
def nowF (ls : List Let) (u : Int × List (List UInt8)) : Int × List (List UInt8) := match findB ls u.1 with
  | some k => match ls[k]? with
    | some x => (u.1, x.flags)
    | none => u
  | none => u
/-- what is told of flags that are others -/
def chF (ls : List Let) : Nat → Us → List Nw
  | _, [] => []
  | i, u :: r => (if (nowF ls u).2 = u.2 then [] else [⟨3, (i + 1 : Nat), (nowF ls u).2⟩]) ++ chF ls (i + 1) r
theorem chF_snoc (ls : List Let) (u : Int × List (List UInt8)) : ∀ (us : Us) (i : Nat), chF ls i (us ++ [u]) = chF ls i us ++ if (nowF ls u).2 = u.2 then [] else [⟨3, (i + us.length + 1 : Nat), (nowF ls u).2⟩]
  | [], i => by simp [chF]
  | x :: r, i => by
    show _ ++ chF ls (i + 1) (r ++ [u]) = (_ ++ chF ls (i + 1) r) ++ _
    rw [chF_snoc ls u r (i + 1), List.append_assoc, show i + 1 + r.length = i + (x :: r).length by simp; omega]
theorem nowF_fst (ls : List Let) (u : Int × List (List UInt8)) : (nowF ls u).1 = u.1 := by
  unfold nowF
  split
  · split <;> rfl
  · rfl
/-- the flags told anew, of the first k -/
def stF (ls : List Let) (us : Us) (k : Nat) : Us := (us.take k).map (nowF ls) ++ us.drop k
theorem stF_len (ls : List Let) (us : Us) (k : Nat) : (stF ls us k).length = us.length := by
  unfold stF
  rw [List.length_append, List.length_map, List.length_take, List.length_drop]
  omega
theorem stF_fst (ls : List Let) (us : Us) (k : Nat) : (stF ls us k).map (·.1) = us.map (·.1) := by
  unfold stF
  rw [List.map_append, List.map_map]
  have e : ((·.1) ∘ nowF ls : Int × List (List UInt8) → Int) = (·.1) := funext fun u => nowF_fst ls u
  rw [e, ← List.map_append, List.take_append_drop]
theorem stF_zero (ls : List Let) (us : Us) : stF ls us 0 = us := by unfold stF; simp
theorem stF_all (ls : List Let) (us : Us) : stF ls us us.length = us.map (nowF ls) := by unfold stF; simp
theorem stF_set {ls : List Let} {us : Us} {k : Nat} {u : Int × List (List UInt8)} (h : us[k]? = some u) : (stF ls us (k + 1)).map (·.2) = ((stF ls us k).map (·.2)).set k (nowF ls u).2 := by
  obtain ⟨hk, e⟩ := List.getElem?_eq_some_iff.1 h
  have hl : ((us.take k).map (nowF ls)).length = k := by rw [List.length_map, List.length_take]; omega
  unfold stF
  rw [List.take_add_one, h, List.drop_eq_getElem_cons hk, e, List.map_append, List.map_append, List.map_append, List.map_append]
  have hl2 : (((us.take k).map (nowF ls)).map (·.2)).length = k := by rw [List.length_map]; exact hl
  rw [List.set_append_right _ _ (by omega), hl2, Nat.sub_self]
  simp
theorem stF_same {ls : List Let} {us : Us} {k : Nat} {u : Int × List (List UInt8)} (h : us[k]? = some u) (hn : (nowF ls u).2 = u.2) : (stF ls us (k + 1)).map (·.2) = (stF ls us k).map (·.2) := by
  obtain ⟨hk, e⟩ := List.getElem?_eq_some_iff.1 h
  rw [stF_set h, hn]
  apply List.ext_getElem?
  intro i
  rw [List.getElem?_set]
  split
  · rename_i hik
    subst hik
    have hlt : k < ((stF ls us k).map (·.2)).length := by rw [List.length_map, stF_len]; exact hk
    rw [if_pos hlt]
    unfold stF
    rw [List.map_append, List.getElem?_append_right (by simp; omega), List.drop_eq_getElem_cons hk, e]
    simp [Nat.min_eq_left (Nat.le_of_lt hk)]
  · rfl
theorem stF_at {ls : List Let} {us : Us} {k : Nat} {u : Int × List (List UInt8)} (h : us[k]? = some u) : ((stF ls us k).map (·.2))[k]? = some u.2 := by
  obtain ⟨hk, e⟩ := List.getElem?_eq_some_iff.1 h
  unfold stF
  rw [List.map_append, List.getElem?_append_right (by simp; omega), List.drop_eq_getElem_cons hk, e]
  simp [Nat.min_eq_left (Nat.le_of_lt hk)]
theorem chF_take {ls : List Let} {us : Us} {k : Nat} {u : Int × List (List UInt8)} (h : us[k]? = some u) : chF ls 0 (us.take (k + 1)) = chF ls 0 (us.take k) ++ if (nowF ls u).2 = u.2 then [] else [⟨3, (k : Int) + 1, (nowF ls u).2⟩] := by
  have hk := (List.getElem?_eq_some_iff.1 h).1
  rw [List.take_add_one, h]
  show chF ls 0 (us.take k ++ [u]) = _
  rw [chF_snoc, List.length_take, Nat.min_eq_left (Nat.le_of_lt hk), Nat.zero_add]
  rfl
theorem nowF_none {ls : List Let} {u : Int × List (List UInt8)} (h : findB ls u.1 = none) : nowF ls u = u := by unfold nowF; rw [h]
theorem nowF_some {ls : List Let} {u : Int × List (List UInt8)} {k : Nat} {x : Let} (h : findB ls u.1 = some k) (hx : ls[k]? = some x) : nowF ls u = (u.1, x.flags) := by unfold nowF; rw [h]; simp only [hx]
/-- a letter seen, if it is behind all -/
def lastU (us : Us) : Option Int := us.getLast?.map (·.1)
def newB (us : Us) (x : Let) : Bool := match lastU us with
  | none => true
  | some n => decide (n < x.uid)
def addF (us : Us) (x : Let) : Us := if newB us x then us ++ [(x.uid, x.flags)] else us
def seeF (ls : List Let) (us : Us) : Us := ls.foldl addF us
theorem seeF_snoc (ls : List Let) (x : Let) (us : Us) : seeF (ls ++ [x]) us = addF (seeF ls us) x := by unfold seeF; rw [List.foldl_append]; rfl
theorem addF_len (us : Us) (x : Let) : us.length ≤ (addF us x).length ∧ (addF us x).length ≤ us.length + 1 := by
  unfold addF
  split
  · simp
  · exact ⟨Nat.le_refl _, Nat.le_succ _⟩
/-- Look: what it tells, and how the box is seen behind it -/
def lookF (ls : List Let) (us : Us) (gone : Bool) : List Nw × Us :=
  let us1 := if gone then us.filter (foundB ls) else us
  let us3 := seeF ls (us1.map (nowF ls))
  ((if gone then goneL ls us us.length else []) ++ (if us1.length < us3.length then [⟨2, (us3.length : Nat), []⟩] else []) ++ chF ls 0 us1, us3)
end Go.Proofs.YteabnpahhkicaaaDoor
