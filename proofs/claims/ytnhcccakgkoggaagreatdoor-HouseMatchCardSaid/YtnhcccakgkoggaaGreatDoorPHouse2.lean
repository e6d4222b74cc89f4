/- A house as plain data: names in order, each one's box, names that are wanted, the next box's number; what is done with it. No program in sight; no condition beyond those each names. -/
import Derived.Test.YtnhcccakgkoggaaGreatDoorPHouse
import Derived.Test.YtnhcccakgkoggaaGreatDoorPUtf
import Derived.Test.YtnhcccakgkoggaaGreatDoorPHead
import Derived.Lib.IndexAny
import Derived.Lib.IndexMore
namespace Go.Proofs.YtnhcccakgkoggaaGreatDoor

def inboxB : Bs := [73, 78, 66, 79, 88]
/-- what may be a name -/
def hokName (s : Bs) : Bool := rightL s && (!Lib.hasPrefix s [47] && (!Lib.hasSuffix s [47] && (!Lib.contains s [47, 47] && !Lib.containsAny s [37, 42])))
def hfirstN (s : Bs) : Bs := (Lib.cut s [47]).1
/-- how a box is called -/
def hnameF (s : Bs) : Option Bs := if hokName s = true then (if greatL (hfirstN s) = inboxB then some (inboxB ++ s.drop (hfirstN s).length) else some s) else none
theorem hright_len {s : Bs} (h : rightL s = true) : s.length ≤ 60 ∧ s ≠ [] := by
  unfold rightL at h
  simp only [Bool.and_eq_true, decide_eq_true_eq] at h
  exact ⟨h.2.1, fun e => by rw [e] at h; simp at h⟩
theorem hokName_len {s : Bs} (h : hokName s = true) : s.length ≤ 60 := by
  unfold hokName at h
  rw [Bool.and_eq_true] at h
  exact (hright_len h.1).1
theorem hgreat_len (s : Bs) : (greatL s).length = s.length := by unfold greatL; simp
theorem hnameF_len {s n : Bs} (h : hnameF s = some n) : n.length ≤ 60 ∧ s.length ≤ 60 := by
  unfold hnameF at h
  split at h
  · rename_i ho
    have hl := hokName_len ho
    split at h
    · rename_i hg
      cases h
      have h5 : (hfirstN s).length = 5 := by rw [← hgreat_len, hg]; rfl
      refine ⟨?_, hl⟩
      rw [List.length_append, List.length_drop, h5]
      show 5 + (s.length - 5) ≤ 60
      omega
    · cases h; exact ⟨hl, hl⟩
  · cases h

/-- a box's block, and what stands in it -/
structure BoxC where
  blk : Nat
  valid : Int
  next : Int
  lv : Value
structure HouseC where
  L : List Bs
  box : Bs → BoxC
  W : List Bs
  next : Int
def updB (f : Bs → BoxC) (s : Bs) (b : BoxC) : Bs → BoxC := fun x => if x = s then b else f x
/-- all names in which one lies that are not there -/
def haboveK (L : List Bs) (n : Bs) (k : Nat) : List Bs := ((List.range k).filter fun i => (n.getD i 0 == 47) && !decide (n.take i ∈ L)).map fun i => n.take i
def haboveF (L : List Bs) (n : Bs) : List Bs := haboveK L n n.length
def hgetF (L : List Bs) (s : Bs) : Nat ⊕ Bs := match hnameF s with
  | none => .inl 1
  | some n => if n ∈ L then .inr n else .inl 7
def hcreateF (L : List Bs) (s : Bs) : Nat ⊕ List Bs := match hnameF s with
  | none => .inl 1
  | some n => if n ∈ L then .inl 9 else if 30 < L.length + (haboveF L n).length + 1 then .inl 12 else .inr (haboveF L n ++ [n])
def hinsideF (L : List Bs) (n : Bs) : List Bs := L.filter fun s => Lib.hasPrefix s (n ++ [47])
def hdeleteF (L : List Bs) (s : Bs) : Nat ⊕ Bs := match hgetF L s with
  | .inl e => .inl e
  | .inr n => if n = inboxB ∨ hinsideF L n ≠ [] then .inl 6 else .inr n
/-- boxes that are made, one behind the other -/
def makeC (h : HouseC) (s : Bs) (B : Nat) : HouseC := { h with L := insS s h.L, box := updB h.box s ⟨B, h.next, 1, .slice none 0 0⟩, next := h.next + 1 }
/-- boxes that are made at some blocks -/
def makeAll : HouseC → List Bs → List Nat → HouseC
  | h, s :: l, B :: bs => makeAll (makeC h s B) l bs
  | h, _, _ => h
def insAll (L l : List Bs) : List Bs := l.foldl (fun L s => insS s L) L
theorem makeAll_snoc : ∀ (h : HouseC) (l : List Bs) (bs : List Nat) (s : Bs) (B : Nat), l.length = bs.length → makeAll h (l ++ [s]) (bs ++ [B]) = makeC (makeAll h l bs) s B
  | h, [], [], s, B, _ => rfl
  | h, x :: l, b :: bs, s, B, e => makeAll_snoc (makeC h x b) l bs s B (by simpa using e)
theorem makeAll_L : ∀ (h : HouseC) (l : List Bs) (bs : List Nat), l.length = bs.length → (makeAll h l bs).L = insAll h.L l ∧ (makeAll h l bs).W = h.W ∧ (makeAll h l bs).next = h.next + l.length
  | h, [], [], _ => ⟨rfl, rfl, by simp [makeAll]⟩
  | h, x :: l, b :: bs, e => by
    obtain ⟨h1, h2, h3⟩ := makeAll_L (makeC h x b) l bs (by simpa using e)
    refine ⟨h1, h2, ?_⟩
    show (makeAll (makeC h x b) l bs).next = _
    rw [h3]
    show h.next + 1 + (l.length : Int) = h.next + ((l.length + 1 : Nat) : Int)
    omega
theorem makeAll_old : ∀ (h : HouseC) (l : List Bs) (bs : List Nat) (x : Bs), x ∉ l → (makeAll h l bs).box x = h.box x
  | h, [], bs, x, _ => by cases bs <;> rfl
  | h, s :: l, [], x, _ => rfl
  | h, s :: l, b :: bs, x, hx => by
    show (makeAll (makeC h s b) l bs).box x = _
    rw [makeAll_old (makeC h s b) l bs x (fun e => hx (List.mem_cons_of_mem _ e))]
    show updB h.box s _ x = _
    unfold updB
    rw [if_neg (fun e : x = s => hx (by rw [e]; exact List.mem_cons_self ..))]
/-- a box that is called otherwise -/
def moveC (h : HouseC) (s t : Bs) : HouseC := { h with L := insS t (delS s h.L), box := updB h.box t (h.box s) }
def moveAll (h : HouseC) (n m : Bs) : List Bs → HouseC
  | [] => h
  | s :: l => moveAll (moveC h s (m ++ s.drop n.length)) n m l
theorem moveAll_snoc (n m : Bs) : ∀ (l : List Bs) (h : HouseC) (s : Bs), moveAll h n m (l ++ [s]) = moveC (moveAll h n m l) s (m ++ s.drop n.length)
  | [], _, _ => rfl
  | x :: l, h, s => moveAll_snoc n m l (moveC h x (m ++ x.drop n.length)) s
/-- what is asked of a name and another one: what is wrong, or both -/
def hrenameF (L : List Bs) (a b : Bs) : Nat ⊕ (Bs × Bs) := match hgetF L a with
  | .inl e => .inl e
  | .inr n => match hnameF b with
    | none => .inl 1
    | some m => if m ∈ L then .inl 9 else if n = inboxB then .inr (n, m) else if Lib.hasPrefix m (n ++ [47]) = true then .inl 6
      else if (hinsideF L n).any (fun s => decide (60 < s.length - n.length + m.length)) = true then .inl 4 else if 30 < L.length + (haboveF L m).length then .inl 12 else .inr (n, m)
/-- a name that is wanted, or not any more -/
def hwantF (W : List Bs) (s : Bs) (on : Bool) : Nat ⊕ List Bs := match hnameF s with
  | none => .inl 1
  | some n => if on = false then (if n ∈ W then .inr (delS n W) else .inl 7) else if 60 ≤ W.length ∧ n ∉ W then .inl 12 else .inr (insS n W)
end Go.Proofs.YtnhcccakgkoggaaGreatDoor
