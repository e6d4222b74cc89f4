/- Plain laws of maps that are told by their keys in order, and of names in order. No program in sight; no condition beyond those each names. A house as plain data: names in order, each one's box, names that are wanted, the next box's number; what is done with it. No program in sight; no condition beyond those each names. Plain laws of names in which one lies, and of boxes that are made: each is new. No program in sight; no condition beyond those each names. Plain laws of boxes that are called otherwise. No program in sight; no condition beyond those each names. The names of a house, by names alone; the fact housed. No program in sight. How a box is called is called so itself. No program in sight; no condition beyond those each names. -/
import Derived.Maps.Views
import Derived.Maps.OwnSet
import Derived.Sort.KeysCollected
import Derived.Test.YtdlfbhbgemoelaaGreatDoorPUtf
import Derived.Test.YtdlfbhbgemoelaaGreatDoorPHead
import Derived.Lib.IndexAny
import Derived.Lib.IndexMore
import Derived.Test.YtdlfbhbgemoelaaGreatDoorPMatch3
import Derived.Test.YtdlfbhbgemoelaaGreatDoorPHead2
import Derived.Lib.ValidLaws
namespace Go.Proofs.YtdlfbhbgemoelaaGreatDoor
open Go.Maps

abbrev Bs := List UInt8
theorem bs_irrefl (a : Bs) : ¬ a < a := List.lt_irrefl a
theorem bs_trans {a b c : Bs} (h1 : a < b) (h2 : b < c) : a < c := List.lt_trans h1 h2
theorem bs_tri (a b : Bs) : a < b ∨ a = b ∨ b < a := by
  by_cases h1 : a < b
  · exact Or.inl h1
  · by_cases h2 : b < a
    · exact Or.inr (Or.inr h2)
    · exact Or.inr (Or.inl (List.le_antisymm (List.not_lt.1 h2) (List.not_lt.1 h1)))
def Sorts (L : List Bs) : Prop := L.Pairwise (· < ·)
theorem Sorts.nodup {L : List Bs} (h : Sorts L) : L.Nodup := List.Pairwise.imp (R := (· < ·)) (S := (· ≠ ·)) (fun {_ b} h e => bs_irrefl b (e ▸ h)) h
/-- a name put where it belongs -/
def insS (s : Bs) (L : List Bs) : List Bs := L.filter (fun x => decide (x < s)) ++ s :: L.filter (fun x => decide (s < x))
def delS (s : Bs) (L : List Bs) : List Bs := L.filter (fun x => !decide (x = s))
theorem mem_insS {s x : Bs} {L : List Bs} : x ∈ insS s L ↔ x = s ∨ x ∈ L := by
  unfold insS
  rw [List.mem_append, List.mem_cons, List.mem_filter, List.mem_filter, decide_eq_true_eq, decide_eq_true_eq]
  constructor
  · rintro (⟨h, _⟩ | rfl | ⟨h, _⟩)
    · exact Or.inr h
    · exact Or.inl rfl
    · exact Or.inr h
  · rintro (rfl | h)
    · exact Or.inr (Or.inl rfl)
    · rcases bs_tri x s with h1 | h1 | h1
      · exact Or.inl ⟨h, h1⟩
      · exact Or.inr (Or.inl h1)
      · exact Or.inr (Or.inr ⟨h, h1⟩)
theorem mem_delS {s x : Bs} {L : List Bs} : x ∈ delS s L ↔ x ∈ L ∧ x ≠ s := by unfold delS; rw [List.mem_filter]; simp
theorem Sorts.ins {s : Bs} {L : List Bs} (h : Sorts L) : Sorts (insS s L) := by
  unfold insS
  refine List.pairwise_append.2 ⟨h.filter _, List.pairwise_cons.2 ⟨fun x hx => by simpa using (List.mem_filter.1 hx).2, h.filter _⟩, ?_⟩
  intro a ha b hb
  have h1 : a < s := by simpa using (List.mem_filter.1 ha).2
  rcases List.mem_cons.1 hb with rfl | hb
  · exact h1
  · exact bs_trans h1 (by simpa using (List.mem_filter.1 hb).2)
theorem Sorts.del {s : Bs} {L : List Bs} (h : Sorts L) : Sorts (delS s L) := h.filter _
theorem sorts_ext {L M : List Bs} (h : Sorts L) (k : Sorts M) (e : ∀ x, x ∈ L ↔ x ∈ M) : L = M :=
  List.Perm.eq_of_pairwise (le := (· < ·)) (fun a b _ _ h1 h2 => absurd (bs_trans h1 h2) (bs_irrefl a)) h k ((List.perm_ext_iff_of_nodup h.nodup k.nodup).2 e)
theorem insS_len {s : Bs} {L : List Bs} (h : Sorts L) (hs : s ∉ L) : (insS s L).length = L.length + 1 := by
  have : (insS s L).Perm (s :: L) := (List.perm_ext_iff_of_nodup h.ins.nodup (List.nodup_cons.2 ⟨hs, h.nodup⟩)).2 fun x => by rw [mem_insS, List.mem_cons]
  rw [this.length_eq]; rfl
theorem delS_len {s : Bs} {L : List Bs} (h : Sorts L) (hs : s ∈ L) : (delS s L).length + 1 = L.length := by
  have h1 : s ∉ delS s L := fun e => (mem_delS.1 e).2 rfl
  have : (s :: delS s L).Perm L := (List.perm_ext_iff_of_nodup (List.nodup_cons.2 ⟨h1, h.del.nodup⟩) h.nodup).2 fun x => by
    rw [List.mem_cons, mem_delS]
    constructor
    · rintro (rfl | h)
      · exact hs
      · exact h.1
    · intro h
      by_cases e : x = s
      · exact Or.inl e
      · exact Or.inr ⟨h, e⟩
  have := this.length_eq
  simpa using this
theorem delS_le (s : Bs) (L : List Bs) : (delS s L).length ≤ L.length := List.length_filter_le _ _
theorem insS_of_mem {s : Bs} {L : List Bs} (h : Sorts L) (hs : s ∈ L) : insS s L = L :=
  sorts_ext h.ins h fun x => by rw [mem_insS]; exact ⟨fun e => e.elim (fun e => e ▸ hs) id, Or.inr⟩
theorem delS_of_not {s : Bs} {L : List Bs} (hs : s ∉ L) : delS s L = L := by
  unfold delS
  rw [List.filter_eq_self]
  intro x hx
  have : x ≠ s := fun e => hs (e ▸ hx)
  simp [this]

/-- a map by its keys in order, and what each has -/
structure MK (z : DataW Unit) (D : DataW Unit) (L : List Bs) (e : Bs → DataW Unit) : Prop where
  tidy : Tidy D
  sorts : Sorts L
  has : ∀ x, Maps.has D (.string x) = decide (x ∈ L)
  at_ : ∀ x, D.atKey (.string x) z = if x ∈ L then e x else z
theorem key_bs (x : Bs) : WideAt.IsKeyLit (.string x) := trivial
theorem lit_ne {x s : Bs} (h : x ≠ s) : Lit.string x ≠ Lit.string s := fun e => h (by injection e)
def updE (e : Bs → DataW Unit) (s : Bs) (d : DataW Unit) : Bs → DataW Unit := fun x => if x = s then d else e x
theorem MK.empty (z : DataW Unit) (e : Bs → DataW Unit) : MK z (.map []) [] e := ⟨tidy_empty, List.Pairwise.nil, fun _ => rfl, fun _ => rfl⟩
theorem MK.put {z D : DataW Unit} {L : List Bs} {e : Bs → DataW Unit} (h : MK z D L e) (s : Bs) (d : DataW Unit) : MK z (D.put (.string s) d) (insS s L) (updE e s d) where
  tidy := h.tidy.put (key_bs s) d
  sorts := h.sorts.ins
  has := fun x => by
    by_cases hx : x = s
    · subst hx
      rw [has_put_same h.tidy.isMap (key_bs x), decide_eq_true (mem_insS.2 (Or.inl rfl))]
    · rw [has_put_other (lit_ne hx), h.has, decide_eq_decide, mem_insS]
      exact ⟨Or.inr, fun e => e.elim (fun e => absurd e hx) id⟩
  at_ := fun x => by
    by_cases hx : x = s
    · subst hx
      rw [atKey_put_same h.tidy.isMap (key_bs x), if_pos (mem_insS.2 (Or.inl rfl))]
      unfold updE; rw [if_pos rfl]
    · rw [atKey_put_other (lit_ne hx), h.at_]
      unfold updE; rw [if_neg hx]
      by_cases hm : x ∈ L
      · rw [if_pos hm, if_pos (mem_insS.2 (Or.inr hm))]
      · rw [if_neg hm, if_neg (fun e => (mem_insS.1 e).elim hx hm)]
theorem MK.del {z D : DataW Unit} {L : List Bs} {e : Bs → DataW Unit} (h : MK z D L e) (s : Bs) : MK z (D.del (.string s)) (delS s L) e where
  tidy := h.tidy.del _
  sorts := h.sorts.del
  has := fun x => by
    by_cases hx : x = s
    · subst hx
      rw [has_del_same, decide_eq_false (fun e => (mem_delS.1 e).2 rfl)]
    · rw [has_del_other (lit_ne hx), h.has, decide_eq_decide, mem_delS]
      exact ⟨fun e => ⟨e, hx⟩, And.left⟩
  at_ := fun x => by
    by_cases hx : x = s
    · subst hx
      rw [atKey_del_same, if_neg (fun e => (mem_delS.1 e).2 rfl)]
    · rw [atKey_del_other (lit_ne hx), h.at_]
      by_cases hm : x ∈ L
      · rw [if_pos hm, if_pos (mem_delS.2 ⟨hm, hx⟩)]
      · rw [if_neg hm, if_neg (fun e => hm (mem_delS.1 e).1)]
theorem MK.congr {z D : DataW Unit} {L : List Bs} {e e' : Bs → DataW Unit} (h : MK z D L e) (he : ∀ x, x ∈ L → e' x = e x) : MK z D L e' :=
  ⟨h.tidy, h.sorts, h.has, fun x => by
    rw [h.at_]
    by_cases hm : x ∈ L
    · rw [if_pos hm, if_pos hm, he x hm]
    · rw [if_neg hm, if_neg hm]⟩
/-- the keys, in whatever order, are the names -/
theorem MK.perm {P : Program} {k : TypeId} {R : Value → Option (DataW Unit × List MemPlace)} {w : World} {b n : Nat} {z D : DataW Unit} {L : List Bs} {e : Bs → DataW Unit} (h : MK z D L e) (hown : w.ownsMap P k R b n D) (hk : P.underlying k = some .string) : L.Perm (strKeys D) := by
  obtain ⟨es, hD, hp⟩ := h.tidy
  obtain ⟨es', hD', hs⟩ := hown.keysOf
  rw [hD] at hD'
  cases hD'
  subst hD
  refine perm_strKeys hp (fun p hp => ?_) h.sorts.nodup (fun x => ?_)
  · obtain ⟨v, hv⟩ := hs p hp
    obtain ⟨x, _, e, _⟩ := keyOf_str hk hv
    exact ⟨x, e⟩
  · rw [h.has, decide_eq_true_eq]
theorem MK.size {P : Program} {k : TypeId} {R : Value → Option (DataW Unit × List MemPlace)} {w : World} {b n : Nat} {z D : DataW Unit} {L : List Bs} {e : Bs → DataW Unit} (h : MK z D L e) (hown : w.ownsMap P k R b n D) (hk : P.underlying k = some .string) : Maps.size D = L.length := by
  rw [(h.perm hown hk).length_eq]
  obtain ⟨es, hD, _⟩ := h.tidy
  subst hD
  simp [strKeys, size_eq]
theorem sorts_merge {L : List Bs} (h : Sorts L) : L.mergeSort leB = L :=
  List.mergeSort_of_pairwise (h.imp fun {a _} h => by simp only [leB, decide_eq_true_eq]; exact List.not_lt.1 (fun e => bs_irrefl a (bs_trans h e)))
end Go.Proofs.YtdlfbhbgemoelaaGreatDoor
namespace Go.Proofs.YtdlfbhbgemoelaaGreatDoor

def inboxB : Bs := [73, 78, 66, 79, 88]
/-- what may be a name -/
def hokName (s : Bs) : Bool := rightL s && (!Lib.hasPrefix s [47] && (!Lib.hasSuffix s [47] && (!Lib.contains s [47, 47] && !Lib.containsAny s [37, 42])))
def hfirstN (s : Bs) : Bs := (Lib.cut s [47]).1
/-- how a box is called -/
def hnameF (s : Bs) : Option Bs := if hokName s = true then (if greatL (hfirstN s) = inboxB then some (inboxB ++ s.drop (hfirstN s).length) else some s) else none
theorem hright_len {s : Bs} (h : rightL s = true) : s.length ≤ 60 ∧ s ≠ [] := by
  unfold rightL at h
  simp only [Bool.and_eq_true, decide_eq_true_eq] at h
  exact ⟨h.2.1, fun e => by rw [e] at h; simp at h⟩
theorem hokName_len {s : Bs} (h : hokName s = true) : s.length ≤ 60 := by
  unfold hokName at h
  rw [Bool.and_eq_true] at h
  exact (hright_len h.1).1
theorem hgreat_len (s : Bs) : (greatL s).length = s.length := by unfold greatL; simp
theorem hnameF_len {s n : Bs} (h : hnameF s = some n) : n.length ≤ 60 ∧ s.length ≤ 60 := by
  unfold hnameF at h
  split at h
  · rename_i ho
    have hl := hokName_len ho
    split at h
    · rename_i hg
      cases h
      have h5 : (hfirstN s).length = 5 := by rw [← hgreat_len, hg]; rfl
      refine ⟨?_, hl⟩
      rw [List.length_append, List.length_drop, h5]
      show 5 + (s.length - 5) ≤ 60
      omega
    · cases h; exact ⟨hl, hl⟩
  · cases h

/-- a box's block, and what stands in it -/
structure BoxC where
  blk : Nat
  valid : Int
  next : Int
  lv : Value
structure HouseC where
  L : List Bs
  box : Bs → BoxC
  W : List Bs
  next : Int
def updB (f : Bs → BoxC) (s : Bs) (b : BoxC) : Bs → BoxC := fun x => if x = s then b else f x
/-- all names in which one lies that are not there -/
def haboveK (L : List Bs) (n : Bs) (k : Nat) : List Bs := ((List.range k).filter fun i => (n.getD i 0 == 47) && !decide (n.take i ∈ L)).map fun i => n.take i
def haboveF (L : List Bs) (n : Bs) : List Bs := haboveK L n n.length
def hgetF (L : List Bs) (s : Bs) : Nat ⊕ Bs := match hnameF s with
  | none => .inl 1
  | some n => if n ∈ L then .inr n else .inl 7
def hcreateF (L : List Bs) (s : Bs) : Nat ⊕ List Bs := match hnameF s with
  | none => .inl 1
  | some n => if n ∈ L then .inl 9 else if 30 < L.length + (haboveF L n).length + 1 then .inl 12 else .inr (haboveF L n ++ [n])
def hinsideF (L : List Bs) (n : Bs) : List Bs := L.filter fun s => Lib.hasPrefix s (n ++ [47])
def hdeleteF (L : List Bs) (s : Bs) : Nat ⊕ Bs := match hgetF L s with
  | .inl e => .inl e
  | .inr n => if n = inboxB ∨ hinsideF L n ≠ [] then .inl 6 else .inr n
/-- boxes that are made, one behind the other -/
def makeC (h : HouseC) (s : Bs) (B : Nat) : HouseC := { h with L := insS s h.L, box := updB h.box s ⟨B, h.next, 1, .slice none 0 0⟩, next := h.next + 1 }
/-- boxes that are made at some blocks -/
def makeAll : HouseC → List Bs → List Nat → HouseC
  | h, s :: l, B :: bs => makeAll (makeC h s B) l bs
  | h, _, _ => h
def insAll (L l : List Bs) : List Bs := l.foldl (fun L s => insS s L) L
theorem makeAll_snoc : ∀ (h : HouseC) (l : List Bs) (bs : List Nat) (s : Bs) (B : Nat), l.length = bs.length → makeAll h (l ++ [s]) (bs ++ [B]) = makeC (makeAll h l bs) s B
  | h, [], [], s, B, _ => rfl
  | h, x :: l, b :: bs, s, B, e => makeAll_snoc (makeC h x b) l bs s B (by simpa using e)
theorem makeAll_L : ∀ (h : HouseC) (l : List Bs) (bs : List Nat), l.length = bs.length → (makeAll h l bs).L = insAll h.L l ∧ (makeAll h l bs).W = h.W ∧ (makeAll h l bs).next = h.next + l.length
  | h, [], [], _ => ⟨rfl, rfl, by simp [makeAll]⟩
  | h, x :: l, b :: bs, e => by
    obtain ⟨h1, h2, h3⟩ := makeAll_L (makeC h x b) l bs (by simpa using e)
    refine ⟨h1, h2, ?_⟩
    show (makeAll (makeC h x b) l bs).next = _
    rw [h3]
    show h.next + 1 + (l.length : Int) = h.next + ((l.length + 1 : Nat) : Int)
    omega
theorem makeAll_old : ∀ (h : HouseC) (l : List Bs) (bs : List Nat) (x : Bs), x ∉ l → (makeAll h l bs).box x = h.box x
  | h, [], bs, x, _ => by cases bs <;> rfl
  | h, s :: l, [], x, _ => rfl
  | h, s :: l, b :: bs, x, hx => by
    show (makeAll (makeC h s b) l bs).box x = _
    rw [makeAll_old (makeC h s b) l bs x (fun e => hx (List.mem_cons_of_mem _ e))]
    show updB h.box s _ x = _
    unfold updB
    rw [if_neg (fun e : x = s => hx (by rw [e]; exact List.mem_cons_self ..))]
/-- a box that is called otherwise -/
def moveC (h : HouseC) (s t : Bs) : HouseC := { h with L := insS t (delS s h.L), box := updB h.box t (h.box s) }
def moveAll (h : HouseC) (n m : Bs) : List Bs → HouseC
  | [] => h
  | s :: l => moveAll (moveC h s (m ++ s.drop n.length)) n m l
theorem moveAll_snoc (n m : Bs) : ∀ (l : List Bs) (h : HouseC) (s : Bs), moveAll h n m (l ++ [s]) = moveC (moveAll h n m l) s (m ++ s.drop n.length)
  | [], _, _ => rfl
  | x :: l, h, s => moveAll_snoc n m l (moveC h x (m ++ x.drop n.length)) s
/-- what is asked of a name and another one: what is wrong, or both -/
def hrenameF (L : List Bs) (a b : Bs) : Nat ⊕ (Bs × Bs) := match hgetF L a with
  | .inl e => .inl e
  | .inr n => match hnameF b with
    | none => .inl 1
    | some m => if m ∈ L then .inl 9 else if n = inboxB then .inr (n, m) else if Lib.hasPrefix m (n ++ [47]) = true then .inl 6
      else if (hinsideF L n).any (fun s => decide (60 < s.length - n.length + m.length)) = true then .inl 4 else if 30 < L.length + (haboveF L m).length then .inl 12 else .inr (n, m)
/-- a name that is wanted, or not any more -/
def hwantF (W : List Bs) (s : Bs) (on : Bool) : Nat ⊕ List Bs := match hnameF s with
  | none => .inl 1
  | some n => if on = false then (if n ∈ W then .inr (delS n W) else .inl 7) else if 60 ≤ W.length ∧ n ∉ W then .inl 12 else .inr (insS n W)
end Go.Proofs.YtdlfbhbgemoelaaGreatDoor
namespace Go.Proofs.YtdlfbhbgemoelaaGreatDoor

theorem mem_insAll {x : Bs} : ∀ {l L : List Bs}, x ∈ insAll L l ↔ x ∈ L ∨ x ∈ l
  | [], L => by simp [insAll]
  | s :: l, L => by
    show x ∈ insAll (insS s L) l ↔ _
    rw [mem_insAll (l := l), mem_insS, List.mem_cons]
    constructor
    · rintro ((h | h) | h)
      · exact Or.inr (Or.inl h)
      · exact Or.inl h
      · exact Or.inr (Or.inr h)
    · rintro (h | h | h)
      · exact Or.inl (Or.inr h)
      · exact Or.inl (Or.inl h)
      · exact Or.inr h
theorem sorts_insAll : ∀ {l L : List Bs}, Sorts L → Sorts (insAll L l)
  | [], _, h => h
  | s :: l, L, h => sorts_insAll (l := l) (L := insS s L) h.ins
theorem insAll_len : ∀ {l L : List Bs}, Sorts L → l.Nodup → (∀ x ∈ l, x ∉ L) → (insAll L l).length = L.length + l.length
  | [], _, _, _, _ => rfl
  | s :: l, L, h, hn, hf => by
    obtain ⟨h1, h2⟩ := List.nodup_cons.1 hn
    have hf2 : ∀ x ∈ l, x ∉ insS s L := fun x hx e => by
      rcases mem_insS.1 e with e | e
      · subst e; exact h1 hx
      · exact hf x (List.mem_cons_of_mem _ hx) e
    have h3 := insAll_len h.ins h2 hf2
    have h4 := insS_len h (hf s (List.mem_cons_self ..))
    show (insAll (insS s L) l).length = L.length + (l.length + 1)
    omega
theorem above_mem {L : List Bs} {n x : Bs} (h : x ∈ haboveF L n) : ∃ i, i < n.length ∧ n.getD i 0 = 47 ∧ x = n.take i ∧ x ∉ L := by
  unfold haboveF haboveK at h
  obtain ⟨i, hi, rfl⟩ := List.mem_map.1 h
  obtain ⟨h1, h2⟩ := List.mem_filter.1 hi
  simp only [Bool.and_eq_true, beq_iff_eq, Bool.not_eq_true', decide_eq_false_iff_not] at h2
  exact ⟨i, List.mem_range.1 h1, h2.1, rfl, h2.2⟩
theorem above_nodup (L : List Bs) (n : Bs) : (haboveF L n).Nodup := by
  unfold haboveF haboveK
  refine List.pairwise_map.2 (((List.nodup_range (n := n.length)).filter _).imp_of_mem fun {i j} hi hj hne e => hne ?_)
  have h1 := List.mem_range.1 (List.mem_filter.1 hi).1
  have h2 := List.mem_range.1 (List.mem_filter.1 hj).1
  have := congrArg List.length e
  rw [List.length_take, List.length_take] at this
  omega
theorem made_fresh {L : List Bs} {n : Bs} (hn : n ∉ L) : (haboveF L n ++ [n]).Nodup ∧ ∀ x ∈ haboveF L n ++ [n], x ∉ L ∧ x.length ≤ n.length := by
  constructor
  · rw [List.nodup_append]
    refine ⟨above_nodup L n, List.nodup_cons.2 ⟨by simp, List.nodup_nil⟩, ?_⟩
    intro a ha b hb e
    rw [List.mem_singleton] at hb
    subst hb
    obtain ⟨i, hi, _, h3, _⟩ := above_mem ha
    have := congrArg List.length (e.symm.trans h3)
    rw [List.length_take] at this
    omega
  · intro x hx
    rcases List.mem_append.1 hx with h | h
    · obtain ⟨i, _, _, h3, h4⟩ := above_mem h
      exact ⟨h4, by rw [h3, List.length_take]; omega⟩
    · rw [List.mem_singleton] at h
      subst h
      exact ⟨hn, Nat.le_refl _⟩
theorem makeAll_new : ∀ (h : HouseC) (l : List Bs) (bs : List Nat) (x : Bs), x ∈ l → l.length = bs.length → ((makeAll h l bs).box x).blk ∈ bs
  | h, [], bs, x, hx, _ => by cases hx
  | h, s :: l, [], x, _, e => by cases e
  | h, s :: l, b :: bs, x, hx, e => by
    by_cases hm : x ∈ l
    · exact List.mem_cons_of_mem _ (makeAll_new (makeC h s b) l bs x hm (by simpa using e))
    · have hxs : x = s := (List.mem_cons.1 hx).resolve_right hm
      show ((makeAll (makeC h s b) l bs).box x).blk ∈ _
      rw [makeAll_old (makeC h s b) l bs x hm]
      show (updB h.box s _ x).blk ∈ _
      unfold updB
      rw [if_pos hxs]
      exact List.mem_cons_self ..
theorem nodup_at {l : List Bs} (h : l.Nodup) {k : Nat} {x : Bs} (hk : l[k]? = some x) : x ∉ l.take k := by
  intro hm
  obtain ⟨j, hj⟩ := List.mem_iff_getElem?.1 hm
  have hjk : j < k := by have := (List.getElem?_eq_some_iff.1 hj).1; rw [List.length_take] at this; omega
  rw [List.getElem?_take_of_lt hjk] at hj
  have h1 := List.getElem?_eq_some_iff.1 hj
  have h2 := List.getElem?_eq_some_iff.1 hk
  have := (List.getElem_inj h (h₀ := h1.1) (h₁ := h2.1)).1 (by rw [h1.2, h2.2])
  omega
end Go.Proofs.YtdlfbhbgemoelaaGreatDoor
namespace Go.Proofs.YtdlfbhbgemoelaaGreatDoor

theorem insS_le (s : Bs) (L : List Bs) (h : Sorts L) : (insS s L).length ≤ L.length + 1 := by
  by_cases hs : s ∈ L
  · rw [insS_of_mem h hs]; omega
  · rw [insS_len h hs]; omega
theorem move_sorts (n m : Bs) : ∀ (l : List Bs) (h : HouseC), Sorts h.L → Sorts (moveAll h n m l).L
  | [], _, h => h
  | s :: l, h, hs => move_sorts n m l (moveC h s (m ++ s.drop n.length)) hs.del.ins
theorem move_len (n m : Bs) : ∀ (l : List Bs) (h : HouseC), Sorts h.L → (moveAll h n m l).L.length ≤ h.L.length + l.length
  | [], _, _ => Nat.le_refl _
  | s :: l, h, hs => by
    have h1 := move_len n m l (moveC h s (m ++ s.drop n.length)) hs.del.ins
    have h2 : (moveC h s (m ++ s.drop n.length)).L.length ≤ h.L.length + 1 := Nat.le_trans (insS_le _ _ hs.del) (by have := delS_le s h.L; omega)
    show (moveAll (moveC h s (m ++ s.drop n.length)) n m l).L.length ≤ h.L.length + (l.length + 1)
    omega
theorem move_same (n m : Bs) : ∀ (l : List Bs) (h : HouseC), (moveAll h n m l).W = h.W ∧ (moveAll h n m l).next = h.next
  | [], _ => ⟨rfl, rfl⟩
  | s :: l, h => move_same n m l (moveC h s (m ++ s.drop n.length))
theorem move_keep (n m : Bs) {x : Bs} : ∀ (l : List Bs) (h : HouseC), x ∈ h.L → x ∉ l → x ∈ (moveAll h n m l).L
  | [], _, h, _ => h
  | s :: l, h, hx, hn => move_keep n m l (moveC h s (m ++ s.drop n.length)) (mem_insS.2 (Or.inr (mem_delS.2 ⟨hx, fun e => hn (e ▸ List.mem_cons_self ..)⟩))) (fun e => hn (List.mem_cons_of_mem _ e))
theorem move_mem (n m : Bs) {x : Bs} : ∀ (l : List Bs) (h : HouseC), x ∈ (moveAll h n m l).L → x ∈ h.L ∨ ∃ s ∈ l, x = m ++ s.drop n.length
  | [], _, h => Or.inl h
  | s :: l, h, hx => by
    rcases move_mem n m l (moveC h s (m ++ s.drop n.length)) hx with h1 | ⟨t, ht, e⟩
    · rcases mem_insS.1 h1 with rfl | h2
      · exact Or.inr ⟨s, List.mem_cons_self .., rfl⟩
      · exact Or.inl (mem_delS.1 h2).1
    · exact Or.inr ⟨t, List.mem_cons_of_mem _ ht, e⟩
theorem inside_mem {L : List Bs} {n x : Bs} (h : x ∈ hinsideF L n) : x ∈ L ∧ ∃ r, x = n ++ 47 :: r := by
  unfold hinsideF at h
  obtain ⟨h1, h2⟩ := List.mem_filter.1 h
  obtain ⟨r, hr⟩ := List.isPrefixOf_iff_prefix.1 h2
  exact ⟨h1, r, by rw [← hr]; simp⟩
theorem inside_fresh {L : List Bs} (hs : Sorts L) (n : Bs) : (hinsideF L n ++ [n]).Nodup := by
  rw [List.nodup_append]
  refine ⟨List.Pairwise.filter _ hs.nodup, List.nodup_cons.2 ⟨by simp, List.nodup_nil⟩, ?_⟩
  intro a ha b hb e
  rw [List.mem_singleton] at hb
  subst hb
  obtain ⟨_, r, hr⟩ := inside_mem ha
  have := congrArg List.length (e.symm.trans hr)
  simp at this
theorem above_out {h : HouseC} {n m x : Bs} {l : List Bs} (hx : x ∈ haboveF h.L m) : x ∉ (moveAll h n m l).L := by
  obtain ⟨i, hi, _, h3, h4⟩ := above_mem hx
  intro e
  rcases move_mem n m l h e with h1 | ⟨s, _, h1⟩
  · exact h4 h1
  · have := congrArg List.length (h3.symm.trans h1)
    rw [List.length_take, List.length_append] at this
    omega
end Go.Proofs.YtdlfbhbgemoelaaGreatDoor
namespace Go.Proofs.YtdlfbhbgemoelaaGreatDoor

def moveLs (n m : Bs) (L : List Bs) (l : List Bs) : List Bs := l.foldl (fun L s => insS (m ++ s.drop n.length) (delS s L)) L
theorem moveAll_L (n m : Bs) : ∀ (l : List Bs) (h : HouseC), (moveAll h n m l).L = moveLs n m h.L l
  | [], _ => rfl
  | s :: l, h => moveAll_L n m l (moveC h s (m ++ s.drop n.length))
/-- behind the names -/
def moreF (L : List Bs) (n m : Bs) : Nat ⊕ (Bs × Bs) := if m ∈ L then .inl 9 else if Lib.hasPrefix m (n ++ [47]) = true then .inl 6
      else if (hinsideF L n).any (fun s => decide (60 < s.length - n.length + m.length)) = true then .inl 4 else if 30 < L.length + (haboveF L m).length then .inl 12 else .inr (n, m)
theorem fact_create : hcreateF [inboxB] [97, 47, 98] = .inr [[97], [97, 47, 98]] := by decide +kernel
theorem fact_made : insAll [inboxB] [[97], [97, 47, 98]] = [inboxB, [97], [97, 47, 98]] := by decide +kernel
theorem fact_delete : hdeleteF [inboxB, [97], [97, 47, 98]] [97] = .inl 6 := by decide +kernel
theorem fact_get : hgetF [inboxB, [97], [97, 47, 98]] [97] = .inr [97] := by decide +kernel
theorem fact_name : hnameF [99] = some [99] := by decide +kernel
theorem fact_more : moreF [inboxB, [97], [97, 47, 98]] [97] [99] = .inr ([97], [99]) := by decide +kernel
theorem fact_above : haboveF [inboxB, [97], [97, 47, 98]] [99] = [] := by decide +kernel
theorem fact_moved : moveLs [97] [99] [inboxB, [97], [97, 47, 98]] (hinsideF [inboxB, [97], [97, 47, 98]] [97] ++ [[97]]) = [inboxB, [99], [99, 47, 98]] := by decide +kernel
theorem fact_yes : matB [99, 37] [99] = true := by decide +kernel
theorem fact_no : matB [37] [99, 47, 98] = false := by decide +kernel
end Go.Proofs.YtdlfbhbgemoelaaGreatDoor
namespace Go.Proofs.YtdlfbhbgemoelaaGreatDoor

theorem any_none' {v cs : List UInt8} (h : ∀ c ∈ v, cs.contains c = false) : Lib.containsAny v cs = false := by
  unfold Lib.containsAny
  have : Lib.indexAny v cs = -1 := Lib.indexAny_none (fun j b _ hb => h b (List.mem_of_getElem? hb))
  rw [this]; rfl
theorem runesL_ascii (b : UInt8) (t : Bs) (h : b.toNat < 128) : runesL (b :: t) = b.toNat :: runesL t := by
  rw [runesL_step _ (by simp), Lib.decodeL_ascii b t h]
  rfl
/-- a letter of a name that goes everywhere -/
def easy (b : UInt8) : Bool := decide (32 ≤ b.toNat ∧ b.toNat < 127)
theorem easy_right : ∀ (a : Bs), (∀ b ∈ a, easy b = true) → ∀ r : Bs, Lib.validD (a ++ r) = Lib.validD r ∧ ((runesL (a ++ r)).all fun x => !badRune x) = (runesL r).all fun x => !badRune x
  | [], _, r => ⟨rfl, rfl⟩
  | b :: a, h, r => by
    obtain ⟨h1, h2⟩ := easy_right a (fun x hx => h x (List.mem_cons_of_mem _ hx)) r
    have hb : 32 ≤ b.toNat ∧ b.toNat < 127 := by simpa [easy] using h b (List.mem_cons_self ..)
    have hbad : badRune b.toNat = false := by unfold badRune; simp; omega
    refine ⟨?_, ?_⟩
    · rw [List.cons_append, Lib.validD_cons b _ (by omega), h1]
    · rw [List.cons_append, runesL_ascii b _ (by omega), List.all_cons, hbad, h2]; rfl
theorem great_letter : ∀ b : UInt8, (greatC b = 73 ∨ greatC b = 78 ∨ greatC b = 66 ∨ greatC b = 79 ∨ greatC b = 88) → easy b = true ∧ b ≠ 47 ∧ b ≠ 37 ∧ b ≠ 42 := by
  intro b
  exact u8_all (p := fun b => (greatC b = 73 ∨ greatC b = 78 ∨ greatC b = 66 ∨ greatC b = 79 ∨ greatC b = 88) → easy b = true ∧ b ≠ 47 ∧ b ≠ 37 ∧ b ≠ 42) (by decide +kernel) b
theorem great_inbox {a : Bs} (h : greatL a = inboxB) : a.length = 5 ∧ ∀ b ∈ a, easy b = true ∧ b ≠ 47 ∧ b ≠ 37 ∧ b ≠ 42 := by
  refine ⟨by rw [← hgreat_len, h]; rfl, fun b hb => great_letter b ?_⟩
  have : greatC b ∈ inboxB := by rw [← h]; exact List.mem_map_of_mem hb
  simpa [inboxB] using this
/-- a name in two: its first part, and what begins with a / -/
theorem first_split (s : Bs) : ∃ r, s = hfirstN s ++ r ∧ (47 ∉ hfirstN s) ∧ (r = [] ∨ ∃ t, r = 47 :: t) := by
  unfold hfirstN
  rcases Lib.index_spec s [47] with ⟨h1, h2⟩ | ⟨i, h1, h2, h3, h4⟩
  · have hc : (Lib.cut s [47]).1 = s := by unfold Lib.cut; rw [h1]; rfl
    rw [hc]
    refine ⟨[], by simp, fun hm => ?_, Or.inl rfl⟩
    have := (has_one (s := s) (c := 47)).trans (decide_eq_true hm)
    unfold Lib.contains at this
    rw [h1] at this
    simp at this
  · have hc : (Lib.cut s [47]).1 = s.take i := by unfold Lib.cut; rw [h1, if_pos (Int.natCast_nonneg i)]; simp
    rw [hc]
    unfold Lib.occAt at h3
    obtain ⟨t, ht⟩ := List.isPrefixOf_iff_prefix.1 h3
    refine ⟨s.drop i, (List.take_append_drop i s).symm, fun hm => ?_, Or.inr ⟨t, ht.symm⟩⟩
    obtain ⟨j, hj⟩ := List.mem_iff_getElem?.1 hm
    have hji : j < i := by have := (List.getElem?_eq_some_iff.1 hj).1; rw [List.length_take] at this; omega
    rw [List.getElem?_take_of_lt hji] at hj
    have := h4 j hji
    unfold Lib.occAt at this
    have hd : s.drop j = 47 :: s.drop (j + 1) := by
      obtain ⟨hl, he⟩ := List.getElem?_eq_some_iff.1 hj
      rw [List.drop_eq_getElem_cons hl, he]
    rw [hd] at this
    simp [List.isPrefixOf] at this
theorem first_of {a r : Bs} (h : 47 ∉ a) (hr : r = [] ∨ ∃ t, r = 47 :: t) : hfirstN (a ++ r) = a := by
  obtain ⟨r', h1, h2, h3⟩ := first_split (a ++ r)
  generalize hfirstN (a ++ r) = f at h1 h2
  have key : ∀ (a f r r' : Bs), a ++ r = f ++ r' → 47 ∉ a → 47 ∉ f → (r = [] ∨ ∃ t, r = 47 :: t) → (r' = [] ∨ ∃ t, r' = 47 :: t) → f = a := by
    intro a
    induction a with
    | nil =>
      intro f r r' e _ hf hr _
      cases f with
      | nil => rfl
      | cons x f =>
        exfalso
        rcases hr with rfl | ⟨t, rfl⟩
        · simp at e
        · simp only [List.nil_append, List.cons_append, List.cons.injEq] at e
          exact hf (by rw [← e.1]; exact List.mem_cons_self ..)
    | cons y a ih =>
      intro f r r' e ha hf hr hr'
      cases f with
      | nil =>
        exfalso
        rcases hr' with rfl | ⟨t, rfl⟩
        · simp at e
        · simp only [List.nil_append, List.cons_append, List.cons.injEq] at e
          exact ha (by rw [e.1]; exact List.mem_cons_self ..)
      | cons x f =>
        simp only [List.cons_append, List.cons.injEq] at e
        obtain ⟨e1, e2⟩ := e
        rw [e1, ih f r r' e2 (fun hm => ha (List.mem_cons_of_mem _ hm)) (fun hm => hf (List.mem_cons_of_mem _ hm)) hr hr']
  exact key a f r r' h1 h h2 hr h3
theorem suffix_one (s : Bs) (c : UInt8) : Lib.hasSuffix s [c] = true ↔ ∃ t, s = t ++ [c] := by
  unfold Lib.hasSuffix
  rw [List.isSuffixOf_iff_suffix]
  exact ⟨fun ⟨t, h⟩ => ⟨t, h.symm⟩, fun ⟨t, h⟩ => ⟨t, h.symm⟩⟩
/-- the name INBOX, however it is written, with what follows, may be a name just as it was -/
theorem okName_inbox {a r : Bs} (ha : greatL a = inboxB) (hr : r = [] ∨ ∃ t, r = 47 :: t) (h : hokName (a ++ r) = true) : hokName (inboxB ++ r) = true := by
  obtain ⟨h5, hl⟩ := great_inbox ha
  have hI : ∀ b ∈ inboxB, easy b = true ∧ b ≠ 47 ∧ b ≠ 37 ∧ b ≠ 42 := by decide
  unfold hokName at h ⊢
  simp only [Bool.and_eq_true, Bool.not_eq_true'] at h ⊢
  obtain ⟨h1, h2, h3, h4, h6⟩ := h
  refine ⟨?_, ?_, ?_, ?_, ?_⟩
  · unfold rightL at h1 ⊢
    obtain ⟨e1, e2⟩ := easy_right a (fun b hb => (hl b hb).1) r
    obtain ⟨e3, e4⟩ := easy_right inboxB (fun b hb => (hI b hb).1) r
    rw [e1, e2] at h1
    rw [e3, e4]
    simp only [Bool.and_eq_true, decide_eq_true_eq] at h1 ⊢
    refine ⟨rfl, ?_, h1.2.2⟩
    have := h1.2.1
    rw [List.length_append] at this ⊢
    have h55 : inboxB.length = 5 := rfl
    omega
  · rfl
  · cases hx : Lib.hasSuffix (inboxB ++ r) [47] with
    | false => rfl
    | true =>
      exfalso
      obtain ⟨t, ht⟩ := (suffix_one _ _).1 hx
      rcases hr with rfl | ⟨t', rfl⟩
      · have := congrArg List.getLast? ht
        simp [inboxB] at this
      · rcases List.eq_nil_or_concat (47 :: t') with e | ⟨u, c, e⟩
        · cases e
        · rw [e, List.concat_eq_append, ← List.append_assoc] at ht
          obtain ⟨_, hc⟩ := List.append_inj' ht rfl
          have : c = 47 := by simpa using hc
          subst this
          have : Lib.hasSuffix (a ++ 47 :: t') [47] = true := (suffix_one _ _).2 ⟨a ++ u, by rw [e, List.concat_eq_append, List.append_assoc]⟩
          rw [h3] at this
          cases this
  · cases hx : Lib.contains (inboxB ++ r) [47, 47] with
    | false => rfl
    | true =>
      exfalso
      obtain ⟨x, y, hxy⟩ := has_text.1 hx
      have hlen : 5 ≤ x.length := by
        rcases Nat.lt_or_ge x.length 5 with hlt | hge
        · exfalso
          have h0 : (inboxB ++ r)[x.length]? = some 47 := by rw [hxy, List.append_assoc, List.getElem?_append_right (Nat.le_refl _), Nat.sub_self]; rfl
          rw [List.getElem?_append_left (by show _ < 5; exact hlt)] at h0
          exact (hI 47 (List.mem_of_getElem? h0)).2.1 rfl
        · exact hge
      have hd := congrArg (List.drop 5) hxy
      have e1 : (inboxB ++ r).drop 5 = r := rfl
      rw [e1, List.append_assoc, List.drop_append_of_le_length hlen] at hd
      have : Lib.contains (a ++ r) [47, 47] = true := has_text.2 ⟨a ++ x.drop 5, y, by rw [hd]; simp⟩
      rw [h4] at this
      cases this
  · refine any_none' ?_
    intro c hc
    have hno := noAny h6
    rcases List.mem_append.1 hc with hc | hc
    · have := hI c hc
      simp [this.2.2.1, this.2.2.2]
    · exact hno c (List.mem_append_right _ hc)
theorem name_again {s n : Bs} (h : hnameF s = some n) : hnameF n = some n := by
  unfold hnameF at h
  split at h
  · rename_i hok
    split at h
    · rename_i hg
      cases h
      obtain ⟨r, h1, h2, h3⟩ := first_split s
      have hd : s.drop (hfirstN s).length = r := by
        have := congrArg (List.drop (hfirstN s).length) h1
        rwa [List.drop_left] at this
      rw [hd]
      rw [h1] at hok
      have hok2 := okName_inbox hg h3 hok
      have hf : hfirstN (inboxB ++ r) = inboxB := first_of (by decide) h3
      unfold hnameF
      rw [if_pos hok2, hf, if_pos (by decide), List.drop_left]
    · rename_i hg
      cases h
      unfold hnameF
      rw [if_pos hok, if_neg hg]
  · cases h
end Go.Proofs.YtdlfbhbgemoelaaGreatDoor
