/- A house as plain data with its boxes' letters; deeds. No program in sight; no condition beyond those each names. -/
import Derived.Test.YtdlfbhbgemoelaaGreatDoorPHouse6
import Derived.Test.YtdlfbhbgemoelaaGreatDoorPBox
namespace Go.Proofs.YtdlfbhbgemoelaaGreatDoor

structure HouP where
  L : List Bs
  c : Bs → BoxP
  W : List Bs
  next : Int
def updP (f : Bs → BoxP) (s : Bs) (b : BoxP) : Bs → BoxP := fun x => if x = s then b else f x
def mkP (p : HouP) (s : Bs) : HouP := { p with L := insS s p.L, c := updP p.c s ⟨p.next, 1, []⟩, next := p.next + 1 }
def mkAllP (p : HouP) (l : List Bs) : HouP := l.foldl mkP p
def moveP (p : HouP) (s t : Bs) : HouP := { p with L := insS t (delS s p.L), c := updP p.c t (p.c s) }
def moveAllP (p : HouP) (n m : Bs) (l : List Bs) : HouP := l.foldl (fun p s => moveP p s (m ++ s.drop n.length)) p
def inboxP (p : HouP) (m : Bs) : HouP := { p with c := updP (updP p.c m ⟨(p.c m).valid, (p.c inboxB).next, (p.c inboxB).ls⟩) inboxB ⟨(p.c inboxB).valid, (p.c inboxB).next, []⟩ }
def createP (p : HouP) (s : Bs) : Option Nat × HouP := match hcreateF p.L s with
  | .inl k => (some k, p)
  | .inr l => (none, mkAllP p l)
def deleteP (p : HouP) (s : Bs) : Option Nat × HouP := match hdeleteF p.L s with
  | .inl k => (some k, p)
  | .inr n => (none, { p with L := delS n p.L })
def renameP (p : HouP) (a b : Bs) : Option Nat × HouP := match hgetF p.L a with
  | .inl k => (some k, p)
  | .inr n => match hnameF b with
    | none => (some 1, p)
    | some m => if n = inboxB then (match hcreateF p.L m with
        | .inl k => (some k, p)
        | .inr l => (none, inboxP (mkAllP p l) m))
      else match moreF p.L n m with
        | .inl k => (some k, p)
        | .inr _ => (none, mkAllP (moveAllP p n m (hinsideF p.L n ++ [n])) (haboveF p.L m))
def wantP (p : HouP) (s : Bs) (on : Bool) : Option Nat × HouP := match hwantF p.W s on with
  | .inl k => (some k, p)
  | .inr W => (none, { p with W := W })
/-- a letter into a box -/
def putP (p : HouP) (s : Bs) (t : List UInt8) : Option Nat × HouP := match hgetF p.L s with
  | .inl k => (some k, p)
  | .inr n => match (appB (p.c n) [] 1 t).1 with
    | .inl k => (some k, p)
    | .inr _ => (none, { p with c := updP p.c n (appB (p.c n) [] 1 t).2 })
structure DeedP where
  what : Int
  s : Bs
  t : Bs
  yes : Bool
def deedP (p : HouP) (x : DeedP) : Option Nat × HouP :=
  if x.what = 0 then createP p x.s else if x.what = 1 then deleteP p x.s else if x.what = 2 then renameP p x.s x.t else if x.what = 3 then wantP p x.s x.yes else if x.what = 4 then putP p x.s x.t else (none, p)
/-- a house is within bounds -/
structure InB (p : HouP) (B : Int) : Prop where
  many : p.L.length ≤ 30
  wants : p.W.length ≤ 60
  lo : 0 ≤ p.next
  hi : p.next ≤ B
  box : ∀ x ∈ p.L, 0 ≤ (p.c x).next ∧ (p.c x).ls.length ≤ 60
theorem InB.mono {p : HouP} {B B' : Int} (h : InB p B) (hB : B ≤ B') : InB p B' := { h with hi := Int.le_trans h.hi hB }
theorem mkAllP_L : ∀ (l : List Bs) (p : HouP), (mkAllP p l).L = insAll p.L l ∧ (mkAllP p l).W = p.W ∧ (mkAllP p l).next = p.next + l.length
  | [], p => ⟨rfl, rfl, by simp [mkAllP]⟩
  | s :: l, p => by
    obtain ⟨h1, h2, h3⟩ := mkAllP_L l (mkP p s)
    refine ⟨h1, h2, ?_⟩
    show (mkAllP (mkP p s) l).next = _
    rw [h3]
    show p.next + 1 + (l.length : Int) = p.next + ((l.length + 1 : Nat) : Int)
    omega
theorem mkAllP_box {Q : BoxP → Prop} (hQ : ∀ n, Q ⟨n, 1, []⟩) : ∀ (l : List Bs) (p : HouP), (∀ x ∈ p.L, Q (p.c x)) → ∀ x ∈ (mkAllP p l).L, Q ((mkAllP p l).c x)
  | [], _, h => h
  | s :: l, p, h => mkAllP_box hQ l (mkP p s) (fun x hx => by
      show Q (updP p.c s ⟨p.next, 1, []⟩ x)
      unfold updP
      split
      · exact hQ _
      · rename_i e; exact h x ((mem_insS.1 hx).resolve_left e))
theorem moveAllP_L (n m : Bs) : ∀ (l : List Bs) (p : HouP), (moveAllP p n m l).L = moveLs n m p.L l ∧ (moveAllP p n m l).W = p.W ∧ (moveAllP p n m l).next = p.next
  | [], _ => ⟨rfl, rfl, rfl⟩
  | s :: l, p => moveAllP_L n m l (moveP p s (m ++ s.drop n.length))
theorem moveAllP_box {Q : BoxP → Prop} (n m : Bs) : ∀ (l : List Bs) (p : HouP), l.Nodup → (∀ s ∈ l, s ∈ p.L) → (∀ x ∈ p.L, Q (p.c x)) → ∀ x ∈ (moveAllP p n m l).L, Q ((moveAllP p n m l).c x)
  | [], _, _, _, h => h
  | s :: l, p, hn, hl, h => by
    obtain ⟨n1, n2⟩ := List.nodup_cons.1 hn
    refine moveAllP_box n m l (moveP p s (m ++ s.drop n.length)) n2 (fun x hx => mem_insS.2 (Or.inr (mem_delS.2 ⟨hl x (List.mem_cons_of_mem _ hx), fun e => n1 (e ▸ hx)⟩))) (fun x hx => ?_)
    show Q (updP p.c (m ++ s.drop n.length) (p.c s) x)
    unfold updP
    split
    · exact h s (hl s (List.mem_cons_self ..))
    · rename_i e; exact h x (mem_delS.1 ((mem_insS.1 hx).resolve_left e)).1
theorem moveLs_len (n m : Bs) : ∀ (l L : List Bs), Sorts L → l.Nodup → (∀ s ∈ l, s ∈ L) → (moveLs n m L l).length ≤ L.length ∧ Sorts (moveLs n m L l)
  | [], _, hs, _, _ => ⟨Nat.le_refl _, hs⟩
  | s :: l, L, hs, hn, hl => by
    obtain ⟨n1, n2⟩ := List.nodup_cons.1 hn
    have h1 := moveLs_len n m l (insS (m ++ s.drop n.length) (delS s L)) hs.del.ins n2 (fun x hx => mem_insS.2 (Or.inr (mem_delS.2 ⟨hl x (List.mem_cons_of_mem _ hx), fun e => n1 (e ▸ hx)⟩)))
    have h2 := insS_le (m ++ s.drop n.length) (delS s L) hs.del
    have h3 := delS_len hs (hl s (List.mem_cons_self ..))
    exact ⟨Nat.le_trans h1.1 (by omega), h1.2⟩
theorem create_inr {L l : List Bs} {s : Bs} (h : hcreateF L s = .inr l) : ∃ n, hnameF s = some n ∧ n ∉ L ∧ L.length + (haboveF L n).length + 1 ≤ 30 ∧ l = haboveF L n ++ [n] := by
  unfold hcreateF at h
  split at h
  · cases h
  · rename_i n hn
    split at h
    · cases h
    · rename_i hm
      split at h
      · cases h
      · rename_i hb
        cases h
        exact ⟨n, hn, hm, by omega, rfl⟩
theorem InB.makes {p : HouP} {B : Int} (h : InB p B) (hs : Sorts p.L) {l : List Bs} (hn : l.Nodup) (hf : ∀ x ∈ l, x ∉ p.L) (hl : p.L.length + l.length ≤ 30) : InB (mkAllP p l) (B + 31) := by
  obtain ⟨e1, e2, e3⟩ := mkAllP_L l p
  refine ⟨by rw [e1, insAll_len hs hn hf]; exact hl, by rw [e2]; exact h.wants, by rw [e3]; have := h.lo; omega, by rw [e3]; have := h.hi; omega, ?_⟩
  exact mkAllP_box (Q := fun b => 0 ≤ b.next ∧ b.ls.length ≤ 60) (fun n => ⟨by show (0 : Int) ≤ 1; decide, Nat.zero_le _⟩) l p h.box
theorem app_bounds {b : BoxP} (l : List (List UInt8)) (d : Int) (t : List UInt8) (h : 0 ≤ b.next ∧ b.ls.length ≤ 60) : 0 ≤ (appB b l d t).2.next ∧ (appB b l d t).2.ls.length ≤ 60 := by
  unfold appB
  split
  · exact h
  · split
    · exact h
    · split
      · exact h
      · split
        · exact h
        · rename_i hx
          refine ⟨by show 0 ≤ b.next + 1; omega, ?_⟩
          show (b.ls ++ [_]).length ≤ 60
          rw [List.length_append]
          show b.ls.length + 1 ≤ 60
          have : ¬ 60 ≤ b.ls.length := fun e => hx (Or.inl e)
          omega
theorem InB.deed {p : HouP} {B : Int} (h : InB p B) (hs : Sorts p.L) (hw : Sorts p.W) (x : DeedP) : InB (deedP p x).2 (B + 31) := by
  have hm := h.mono (show B ≤ B + 31 by omega)
  have hcr : ∀ s, InB (createP p s).2 (B + 31) := fun s => by
    unfold createP
    cases hc : hcreateF p.L s with
    | inl k => exact hm
    | inr l =>
      obtain ⟨n, _, h2, h3, rfl⟩ := create_inr hc
      have hf := made_fresh h2
      exact h.makes hs hf.1 (fun x hx => (hf.2 x hx).1) (by rw [List.length_append]; show _ + (_ + 1) ≤ 30; omega)
  unfold deedP
  split
  · exact hcr x.s
  split
  · unfold deleteP
    split
    · exact hm
    · exact { hm with many := Nat.le_trans (delS_le _ _) h.many, box := fun y hy => h.box y (mem_delS.1 hy).1 }
  split
  · unfold renameP
    cases hg : hgetF p.L x.s with
    | inl k => exact hm
    | inr n =>
      show InB (match hnameF x.t with
        | none => (some 1, p)
        | some m => _).2 _
      cases hn : hnameF x.t with
      | none => exact hm
      | some m =>
        show InB (if n = inboxB then _ else _ : Option Nat × HouP).2 _
        by_cases hi : n = inboxB
        · rw [if_pos hi]
          have hc2 := hcr m
          unfold createP at hc2
          cases hc : hcreateF p.L m with
          | inl k => exact hm
          | inr l =>
            rw [hc] at hc2
            replace hc2 : InB (mkAllP p l) (B + 31) := hc2
            have hin : inboxB ∈ (mkAllP p l).L := by
              rw [(mkAllP_L l p).1, mem_insAll]
              have : n ∈ p.L := by
                unfold hgetF at hg
                split at hg
                · cases hg
                · split at hg
                  · rename_i hmem; cases hg; exact hmem
                  · cases hg
              exact Or.inl (hi ▸ this)
            refine { hc2 with box := fun y hy => ?_ }
            show 0 ≤ (updP (updP (mkAllP p l).c m _) inboxB _ y).next ∧ (updP (updP (mkAllP p l).c m _) inboxB _ y).ls.length ≤ 60
            have hib := hc2.box inboxB hin
            unfold updP
            split
            · exact ⟨hib.1, Nat.zero_le _⟩
            · split
              · exact hib
              · exact hc2.box y hy
        · rw [if_neg hi]
          cases hmo : moreF p.L n m with
          | inl k => exact hm
          | inr q =>
            show InB (mkAllP (moveAllP p n m (hinsideF p.L n ++ [n])) (haboveF p.L m)) _
            have hmL : m ∉ p.L ∧ p.L.length + (haboveF p.L m).length ≤ 30 := by
              unfold moreF at hmo
              split at hmo
              · cases hmo
              · rename_i c1
                split at hmo
                · cases hmo
                · split at hmo
                  · cases hmo
                  · split at hmo
                    · cases hmo
                    · rename_i c2; exact ⟨c1, by omega⟩
            have hnL : n ∈ p.L := by
              unfold hgetF at hg
              split at hg
              · cases hg
              · split at hg
                · rename_i hmem; cases hg; exact hmem
                · cases hg
            have hnd := inside_fresh hs n
            have hsub : ∀ s ∈ hinsideF p.L n ++ [n], s ∈ p.L := fun s hx => by
              rcases List.mem_append.1 hx with e | e
              · exact (inside_mem e).1
              · rw [List.mem_singleton] at e; exact e ▸ hnL
            obtain ⟨e1, e2, e3⟩ := moveAllP_L n m (hinsideF p.L n ++ [n]) p
            obtain ⟨l1, l2⟩ := moveLs_len n m _ p.L hs hnd hsub
            have hmv : InB (moveAllP p n m (hinsideF p.L n ++ [n])) B := ⟨by rw [e1]; exact Nat.le_trans l1 h.many, by rw [e2]; exact h.wants, by rw [e3]; exact h.lo, by rw [e3]; exact h.hi, moveAllP_box (Q := fun b => 0 ≤ b.next ∧ b.ls.length ≤ 60) n m _ p hnd hsub h.box⟩
            refine hmv.makes (by rw [e1]; exact l2) (above_nodup p.L m) (fun y hy => ?_) (by rw [e1]; omega)
            rw [e1, ← moveAll_L n m _ (⟨p.L, fun _ => ⟨0, 0, 0, .slice none 0 0⟩, [], 0⟩ : HouseC)]
            exact above_out (h := (⟨p.L, fun _ => ⟨0, 0, 0, .slice none 0 0⟩, [], 0⟩ : HouseC)) hy
  split
  · unfold wantP
    cases hwn : hwantF p.W x.s x.yes with
    | inl k => exact hm
    | inr W =>
      refine { hm with wants := ?_ }
      show W.length ≤ 60
      unfold hwantF at hwn
      split at hwn
      · cases hwn
      · rename_i n _
        split at hwn
        · split at hwn
          · cases hwn; exact Nat.le_trans (delS_le _ _) h.wants
          · cases hwn
        · split at hwn
          · cases hwn
          · rename_i hx
            cases hwn
            by_cases hmem : n ∈ p.W
            · rw [insS_of_mem hw hmem]; exact h.wants
            · rw [insS_len hw hmem]
              have : ¬ 60 ≤ p.W.length := fun e => hx ⟨e, hmem⟩
              omega
  split
  · unfold putP
    cases hg : hgetF p.L x.s with
    | inl k => exact hm
    | inr n =>
      show InB (match (appB (p.c n) [] 1 x.t).1 with
        | .inl k => (some k, p)
        | .inr _ => (none, { p with c := updP p.c n (appB (p.c n) [] 1 x.t).2 })).2 _
      cases ha : (appB (p.c n) [] 1 x.t).1 with
      | inl k => exact hm
      | inr z =>
        refine { hm with box := fun y hy => ?_ }
        show 0 ≤ (updP p.c n (appB (p.c n) [] 1 x.t).2 y).next ∧ (updP p.c n (appB (p.c n) [] 1 x.t).2 y).ls.length ≤ 60
        unfold updP
        split
        · rename_i e; subst e; exact app_bounds _ _ _ (h.box y hy)
        · exact h.box y hy
  · exact hm
end Go.Proofs.YtdlfbhbgemoelaaGreatDoor
