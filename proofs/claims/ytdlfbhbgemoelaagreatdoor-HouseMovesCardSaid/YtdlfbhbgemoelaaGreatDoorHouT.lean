/- A house with its boxes' letters; the walks over what is done with it, as plain data say. Conditions: utf8's two tables, bytealg.MaxLen, flags.system lie as the program's text lays them. The walks over what one does with a house: a letter into a box; the statements' deed. Conditions: utf8's two tables, bytealg.MaxLen, flags.system lie as the program's text lays them. The walks over a row of deeds (small) and over a house's List, Want, Tell as plain data say. Conditions: utf8's two tables, bytealg.MaxLen, errors.errorType lie as the program's text lays them (where each is read). -/
import Derived.Test.YtdlfbhbgemoelaaGreatDoorHouW
import Derived.Test.YtdlfbhbgemoelaaGreatDoorPHouse7
import Derived.Test.YtdlfbhbgemoelaaGreatDoorBoxG
import Derived.Test.YtdlfbhbgemoelaaGreatDoorHouL
namespace Go.Proofs.YtdlfbhbgemoelaaGreatDoor
open Go.RowKit Go.Shelf Go.Sort Go.Maps
set_option linter.unusedSimpArgs false

def CellOf (N : Nat) (w : World) (b : BoxC) (c : BoxP) : Prop := b.valid = c.valid ∧ b.next = c.next ∧ ∃ zs, zs.map (·.1) = c.ls ∧ XRow N w b.lv zs
structure RelH (N : Nat) (w : World) (h : HouseC) (p : HouP) : Prop where
  L : h.L = p.L
  W : h.W = p.W
  next : h.next = p.next
  cell : ∀ x ∈ h.L, CellOf N w (h.box x) (p.c x)
/-- a house lies in a block, its boxes' letters with it -/
def Hou (N : Nat) (w : World) (H mb mw : Nat) (p : HouP) : Prop := ∃ h, HouseS N w H mb mw h ∧ RelH N w h p
/-- the blocks of a house -/
def HBlk (H mb mw : Nat) (h : HouseC) (k : Nat) : Prop := k = H ∨ k = mb ∨ k = mw ∨ ∃ x ∈ h.L, k = (h.box x).blk
theorem spares_house {N : Nat} {w : World} {H mb mw : Nat} {h : HouseC} (hS : HouseS N w H mb mw h) {S : Nat → Prop} (hSS : ∀ k, S k → HBlk H mb mw h k) : Spares N w S := fun k _ hk => by
  obtain ⟨es, cl, hb⟩ := hS.boxes.obj
  obtain ⟨es', cl', hw⟩ := hS.wants.obj
  rcases hSS k hk with rfl | rfl | rfl | ⟨x, hx, rfl⟩
  · exact ⟨hS.loH, not_lettered hS.cells (by decide) (by decide)⟩
  · exact ⟨hS.lob, fun ⟨_, _, _, h1, _⟩ => by rw [hb] at h1; cases h1⟩
  · exact ⟨hS.low, fun ⟨_, _, _, h1, _⟩ => by rw [hw] at h1; cases h1⟩
  · exact ⟨(hS.box x hx).1, not_lettered (hS.box x hx).2 (by decide) (by decide)⟩
theorem CellOf.kept {N : Nat} {w w' : World} {b : BoxC} {c : BoxP} {S : Nat → Prop} (h : CellOf N w b c) (hk : Kept S w w') (hs : Spares N w S) : CellOf N w' b c := ⟨h.1, h.2.1, let ⟨zs, h1, h2⟩ := h.2.2; ⟨zs, h1, h2.kept hk hs⟩⟩
theorem RelH.kept {N : Nat} {w w' : World} {h : HouseC} {p : HouP} {S : Nat → Prop} (hr : RelH N w h p) (hk : Kept S w w') (hs : Spares N w S) : RelH N w' h p := { hr with cell := fun x hx => (hr.cell x hx).kept hk hs }
theorem RelH.below {N : Nat} {w w' : World} {h : HouseC} {p : HouP} (hr : RelH N w h p) (hb : Below w.heap.size w w') : RelH N w' h p := hr.kept (S := fun _ => False) (kept_below hb) (spares_none N w)
theorem Hou.below {N : Nat} {w w' : World} {H mb mw : Nat} {p : HouP} (h : Hou N w H mb mw p) (hb : Below w.heap.size w w') : Hou N w' H mb mw p := let ⟨c, h1, h2⟩ := h; ⟨c, h1.below hb, h2.below hb⟩
theorem xrow_nil (N : Nat) (w : World) : XRow N w (.slice none 0 0) [] := ⟨⟨none, 0, rfl, Nat.le_refl _, ⟨by decide, fun _ => rfl⟩, (fun z hz => by cases hz), fun j u h => by simp [cellsL] at h⟩, (fun a n c e => by cases e), (fun z hz => by cases hz)⟩
theorem RelH.make {N : Nat} {w : World} {h : HouseC} {p : HouP} (hr : RelH N w h p) (s : Bs) (B : Nat) : RelH N w (makeC h s B) (mkP p s) where
  L := by show insS s h.L = insS s p.L; rw [hr.L]
  W := hr.W
  next := by show h.next + 1 = p.next + 1; rw [hr.next]
  cell := fun x hx => by
    show CellOf N w (updB h.box s ⟨B, h.next, 1, .slice none 0 0⟩ x) (updP p.c s ⟨p.next, 1, []⟩ x)
    unfold updB updP
    split
    · exact ⟨hr.next, rfl, [], rfl, xrow_nil N w⟩
    · rename_i e; exact hr.cell x ((mem_insS.1 hx).resolve_left e)
theorem RelH.makes {N : Nat} {w : World} : ∀ (l : List Bs) (bs : List Nat) (h : HouseC) (p : HouP), l.length = bs.length → RelH N w h p → RelH N w (makeAll h l bs) (mkAllP p l)
  | [], [], _, _, _, hr => hr
  | s :: l, b :: bs, h, p, e, hr => RelH.makes l bs (makeC h s b) (mkP p s) (by simpa using e) (hr.make s b)
theorem RelH.moves {N : Nat} {w : World} (n m : Bs) : ∀ (l : List Bs) (h : HouseC) (p : HouP), l.Nodup → (∀ s ∈ l, s ∈ h.L) → RelH N w h p → RelH N w (moveAll h n m l) (moveAllP p n m l)
  | [], _, _, _, _, hr => hr
  | s :: l, h, p, hn, hl, hr => by
    obtain ⟨n1, n2⟩ := List.nodup_cons.1 hn
    refine RelH.moves n m l (moveC h s (m ++ s.drop n.length)) (moveP p s (m ++ s.drop n.length)) n2 (fun x hx => mem_insS.2 (Or.inr (mem_delS.2 ⟨hl x (List.mem_cons_of_mem _ hx), fun e => n1 (e ▸ hx)⟩))) ⟨?_, hr.W, hr.next, fun x hx => ?_⟩
    · show insS _ (delS s h.L) = insS _ (delS s p.L); rw [hr.L]
    · show CellOf N w (updB h.box (m ++ s.drop n.length) (h.box s) x) (updP p.c (m ++ s.drop n.length) (p.c s) x)
      unfold updB updP
      split
      · exact hr.cell s (hl s (List.mem_cons_self ..))
      · rename_i e; exact hr.cell x (mem_delS.1 ((mem_insS.1 hx).resolve_left e)).1
theorem RelH.inbox {N : Nat} {w : World} {h : HouseC} {p : HouP} (hr : RelH N w h p) {m : Bs} (hm : m ∈ h.L) (hi : inboxB ∈ h.L) : RelH N w (inboxC h m) (inboxP p m) where
  L := hr.L
  W := hr.W
  next := hr.next
  cell := fun x hx => by
    have h1 := hr.cell inboxB hi
    have h2 := hr.cell m hm
    show CellOf N w (updB (updB h.box m ⟨(h.box m).blk, (h.box m).valid, (h.box inboxB).next, (h.box inboxB).lv⟩) inboxB ⟨(h.box inboxB).blk, (h.box inboxB).valid, (h.box inboxB).next, .slice none 0 0⟩ x) (updP (updP p.c m ⟨(p.c m).valid, (p.c inboxB).next, (p.c inboxB).ls⟩) inboxB ⟨(p.c inboxB).valid, (p.c inboxB).next, []⟩ x)
    unfold updB updP
    split
    · exact ⟨h1.1, h1.2.1, [], rfl, xrow_nil N w⟩
    · split
      · exact ⟨h2.1, h1.2.1, h1.2.2⟩
      · exact hr.cell x hx
def errE : Option Nat → Value
  | none => .nilIface
  | some k => .iface 55 (.int .i64 (k : Int))
/-- what was done, and what it leaves -/
def DoneS (N : Nat) (w : World) (H mb mw : Nat) (r : Option Nat × HouP) (e : Ending) (w' : World) : Prop := e = .returned (errE r.1) ∧ Hou N w' H mb mw r.2 ∧ Below N w w'
theorem DoneS.same {N : Nat} {w w' : World} {H mb mw : Nat} {p : HouP} {o : Option Nat} (h : Hou N w H mb mw p) (hN : N ≤ w.heap.size) (hb : Below w.heap.size w w') : DoneS N w H mb mw (o, p) (.returned (errE o)) w' := ⟨rfl, h.below hb, hb.mono hN⟩
theorem sorts_hou {N : Nat} {w : World} {H mb mw : Nat} {p : HouP} (h : Hou N w H mb mw p) : Sorts p.L ∧ Sorts p.W := let ⟨_, h1, h2⟩ := h; ⟨h2.L ▸ h1.boxes.sorts, h2.W ▸ h1.wants.sorts⟩
theorem pcreate_any (N H mb mw : Nat) (p : HouP) (s : Bs) (w : World) (hh : Hou N w H mb mw p) (hB : InB p 3000000000) (hN : N ≤ w.heap.size) (hs : s.length ≤ 1000000) (hG : HG w) :
    Calls Tryz.prog 17 #[.pointer (some ⟨H, 0, none⟩), .string ⟨s.toArray⟩] w (DoneS N w H mb mw (createP p s)) := by
  have hh0 := hh
  obtain ⟨h, hS, hR⟩ := hh
  unfold createP
  cases hc : hcreateF p.L s with
  | inl k =>
    refine (hcreate_bad N H mb mw h s k w hS hs (by rw [hR.L]; have := hB.many; omega) hG (by rw [hR.L]; exact hc)).mono ?_
    rintro e w' ⟨rfl, hb⟩
    exact DoneS.same (o := some k) hh0 hN hb
  | inr l =>
    refine (hcreate_good N H mb mw h s l w hS hN hs hG (by rw [hR.next]; exact hB.lo) (by rw [hR.next]; exact hB.hi) (by rw [hR.L]; exact hc)).mono ?_
    rintro e w' ⟨rfl, bs, hbs, hS', hK, _⟩
    exact ⟨rfl, ⟨_, hS', (hR.kept hK (spares_house hS (fun k e => e.elim Or.inl (fun e => Or.inr (Or.inl e))))).makes l bs _ _ hbs⟩, house_bound hK hN hS.loH hS.lob⟩
theorem pdelete_any (N H mb mw : Nat) (p : HouP) (s : Bs) (w : World) (hh : Hou N w H mb mw p) (hB : InB p 3000000000) (hN : N ≤ w.heap.size) (hs : s.length ≤ 1000000) (hG : HG w) :
    Calls Tryz.prog 20 #[.pointer (some ⟨H, 0, none⟩), .string ⟨s.toArray⟩] w (DoneS N w H mb mw (deleteP p s)) := by
  have hh0 := hh
  obtain ⟨h, hS, hR⟩ := hh
  have cD := hdelete_any N H mb mw h s w hS hs (by rw [hR.L]; have := hB.many; omega) hG
  rw [hR.L] at cD
  unfold deleteP
  cases hc : hdeleteF p.L s with
  | inl k =>
    rw [hc] at cD
    refine cD.mono ?_
    rintro e w' ⟨rfl, hb⟩
    exact DoneS.same (o := some k) hh0 hN hb
  | inr n =>
    rw [hc] at cD
    refine cD.mono ?_
    rintro e w' ⟨rfl, hS', hK⟩
    have hR' := hR.kept hK (spares_house hS (fun k e => Or.inr (Or.inl e)))
    refine ⟨rfl, ⟨_, hS', ⟨by show delS n h.L = delS n p.L; rw [hR.L], hR.W, hR.next, fun x hx => hR'.cell x (mem_delS.1 hx).1⟩⟩, hK.below hN (fun k e => e ▸ hS.lob)⟩
theorem pwant_any (N H mb mw : Nat) (p : HouP) (s : Bs) (on : Bool) (w : World) (hh : Hou N w H mb mw p) (hB : InB p 3000000000) (hN : N ≤ w.heap.size) (hs : s.length ≤ 1000000) (hG : HG w) :
    Calls Tryz.prog 24 #[.pointer (some ⟨H, 0, none⟩), .string ⟨s.toArray⟩, .bool on] w (DoneS N w H mb mw (wantP p s on)) := by
  have hh0 := hh
  obtain ⟨h, hS, hR⟩ := hh
  have cD := hwant_any N H mb mw h s on w hS hs (by rw [hR.W]; have := hB.wants; omega) hG
  rw [hR.W] at cD
  unfold wantP
  cases hc : hwantF p.W s on with
  | inl k =>
    rw [hc] at cD
    refine cD.mono ?_
    rintro e w' ⟨rfl, hb⟩
    exact DoneS.same (o := some k) hh0 hN hb
  | inr W =>
    rw [hc] at cD
    refine cD.mono ?_
    rintro e w' ⟨rfl, hS', hK⟩
    have hR' := hR.kept hK (spares_house hS (fun k e => Or.inr (Or.inr (Or.inl e))))
    exact ⟨rfl, ⟨_, hS', ⟨hR.L, rfl, hR.next, hR'.cell⟩⟩, hK.below hN (fun k e => e ▸ hS.low)⟩
theorem prename_any (N H mb mw : Nat) (p : HouP) (a b : Bs) (w : World) (hh : Hou N w H mb mw p) (hB : InB p 3000000000) (hN : N ≤ w.heap.size) (ha : a.length ≤ 1000000) (hb : b.length ≤ 1000000) (hG : HG w) :
    Calls Tryz.prog 12 #[.pointer (some ⟨H, 0, none⟩), .string ⟨a.toArray⟩, .string ⟨b.toArray⟩] w (DoneS N w H mb mw (renameP p a b)) := by
  have hh0 := hh
  obtain ⟨h, hS, hR⟩ := hh
  have hm := hB.many
  have h0 := hB.lo
  have h1 := hB.hi
  unfold renameP
  cases hg : hgetF p.L a with
  | inl k =>
    refine (hrename_get N H mb mw h a b k w hS ha hG (by rw [hR.L]; exact hg)).mono ?_
    rintro e w' ⟨rfl, hb⟩
    exact DoneS.same (o := some k) hh0 hN hb
  | inr n =>
    have hgn := hget_inr hg
    cases hn : hnameF b with
    | none =>
      refine (hrename_to N H mb mw h a b n w hS ha hb hG (by rw [hR.L]; exact hg) hn).mono ?_
      rintro e w' ⟨rfl, hb⟩
      exact DoneS.same (o := some 1) hh0 hN hb
    | some m =>
      by_cases hi : n = inboxB
      · show Calls _ _ _ _ (DoneS N w H mb mw (if n = inboxB then _ else _))
        rw [if_pos hi]
        refine (hrename_inbox N H mb mw h a b n m w hS hN ha hb (by rw [hR.L]; omega) hG (by rw [hR.next]; exact h0) (by rw [hR.next]; exact h1) (by rw [hR.L]; exact hg) hn hi).mono ?_
        intro e w' hI
        unfold InboxS at hI
        rw [hR.L] at hI
        cases hc : hcreateF p.L m with
        | inl k =>
          rw [hc] at hI
          obtain ⟨rfl, hb⟩ := hI
          exact DoneS.same (o := some k) hh0 hN hb
        | inr l =>
          rw [hc] at hI
          obtain ⟨rfl, bs, hbs, hS', hK⟩ := hI
          have hin : inboxB ∈ h.L := by rw [hR.L, ← hi]; exact hgn.2
          have hR' := (hR.kept hK (spares_house hS (fun k e => by rcases e with e | e | e; exact Or.inl e; exact Or.inr (Or.inl e); exact Or.inr (Or.inr (Or.inr ⟨inboxB, hin, e⟩))))).makes l bs _ _ hbs
          obtain ⟨m', hm', _, _, hl⟩ := create_inr hc
          have hmm : m' = m := by
            have := name_again hn
            rw [this] at hm'
            cases hm'; rfl
          subst hmm
          refine ⟨rfl, ⟨_, hS', hR'.inbox ?_ ?_⟩, hK.below hN (fun k e => by rcases e with e | e | e; exact e ▸ hS.loH; exact e ▸ hS.lob; exact e ▸ (hS.box _ hin).1)⟩
          · rw [(makeAll_L h l bs hbs).1, mem_insAll, hl]; simp
          · rw [(makeAll_L h l bs hbs).1, mem_insAll]; exact Or.inl hin
      · show Calls _ _ _ _ (DoneS N w H mb mw (if n = inboxB then _ else _))
        rw [if_neg hi]
        have cM := hrename_more N H mb mw h a b n m w hS hN ha hb (by rw [hR.L]; omega) hG (by rw [hR.next]; exact h0) (by rw [hR.next]; exact h1) (by rw [hR.L]; exact hg) hn hi
        refine cM.mono ?_
        rw [hR.L]
        intro e w' hI
        cases hc : moreF p.L n m with
        | inl k =>
          rw [hc] at hI
          obtain ⟨rfl, hb⟩ := hI
          exact DoneS.same (o := some k) hh0 hN hb
        | inr q =>
          rw [hc] at hI
          have hq : q = (n, m) := by
            unfold moreF at hc
            split at hc
            · cases hc
            · split at hc
              · cases hc
              · split at hc
                · cases hc
                · split at hc
                  · cases hc
                  · cases hc; rfl
          subst hq
          obtain ⟨rfl, bs, hbs, hS', hK⟩ := hI
          rw [hR.L] at hbs hS'
          have hsub : ∀ s ∈ hinsideF p.L n ++ [n], s ∈ h.L := fun s hx => by
            rw [hR.L]
            rcases List.mem_append.1 hx with e | e
            · exact (inside_mem e).1
            · rw [List.mem_singleton] at e; exact e ▸ hgn.2
          have hR' := (hR.kept hK (spares_house hS (fun k e => e.elim Or.inl (fun e => Or.inr (Or.inl e)))))
          exact ⟨rfl, ⟨_, hS', (hR'.moves n m _ _ _ (inside_fresh (sorts_hou hh0).1 n) hsub).makes _ bs _ _ hbs⟩, house_bound hK hN hS.loH hS.lob⟩
end Go.Proofs.YtdlfbhbgemoelaaGreatDoor
namespace Go.Proofs.YtdlfbhbgemoelaaGreatDoor
open Go.RowKit Go.Shelf Go.Sort Go.Maps
set_option linter.unusedSimpArgs false

theorem house_put {N : Nat} {w w' : World} {H mb mw : Nat} {h : HouseC} {p : HouP} {n : Bs} {c : BoxP} (hS : HouseS N w H mb mw h) (hR : RelH N w h p) (hn : n ∈ h.L) (hK : Kept (fun k => k = (h.box n).blk) w w') (hb : BoxS N w' (h.box n).blk c) : Hou N w' H mb mw { p with c := updP p.c n c } := by
  obtain ⟨lv, zs, hB, hzs, hxr⟩ := hb
  obtain ⟨ao, cap, rfl, _⟩ := hxr.1
  have hne := hS.box_ne hn
  have hR' := hR.kept hK (spares_house hS (fun k e => Or.inr (Or.inr (Or.inr ⟨n, hn, e⟩))))
  have hblk : ∀ x, (updB h.box n ⟨(h.box n).blk, c.valid, c.next, .slice ao zs.length cap⟩ x).blk = (h.box x).blk := fun x => by
    unfold updB
    split
    · rename_i e; rw [e]
    · rfl
  refine ⟨{ h with box := updB h.box n ⟨(h.box n).blk, c.valid, c.next, .slice ao zs.length cap⟩ }, ?_, hR.L, hR.W, hR.next, fun x hx => ?_⟩
  · refine { hS with cells := hK.obj hS.cells (fun e => hne.1 e.symm), boxes := (hS.boxes.kept hK (fun e => hne.2.1 e.symm)).congr (fun x _ => hblk x), wants := hS.wants.kept hK (fun e => hne.2.2.1 e.symm), box := fun x hx => ?_, inj := fun x hx y hy e => ?_, slc := fun x hx => ?_ }
    · refine ⟨by show N ≤ (updB h.box n _ x).blk; rw [hblk]; exact (hS.box x hx).1, ?_⟩
      by_cases e : x = n
      · subst e
        show w'.heap[(updB h.box x _ x).blk]? = some (.cells #[.int .i64 (updB h.box x _ x).valid, .int .i64 (updB h.box x _ x).next, (updB h.box x _ x).lv] 48 (0, 0))
        unfold updB
        rw [if_pos rfl]
        exact hB
      · show w'.heap[(updB h.box n _ x).blk]? = some (.cells #[.int .i64 (updB h.box n _ x).valid, .int .i64 (updB h.box n _ x).next, (updB h.box n _ x).lv] 48 (0, 0))
        unfold updB
        rw [if_neg e]
        exact hK.obj (hS.box x hx).2 (fun e' => e (hS.inj x hx n hn e'))
    · have e' : (h.box x).blk = (h.box y).blk := (hblk x).symm.trans (e.trans (hblk y))
      exact hS.inj x hx y hy e'
    · show ∃ a m c', (updB h.box n _ x).lv = .slice a m c'
      unfold updB
      split
      · exact ⟨_, _, _, rfl⟩
      · exact hS.slc x hx
  · show CellOf N w' (updB h.box n _ x) (updP p.c n c x)
    unfold updB updP
    split
    · exact ⟨rfl, rfl, zs, hzs, hxr⟩
    · exact hR'.cell x hx
theorem box_of {N : Nat} {w : World} {H mb mw : Nat} {h : HouseC} {p : HouP} {n : Bs} (hS : HouseS N w H mb mw h) (hR : RelH N w h p) (hn : n ∈ h.L) : BoxS N w (h.box n).blk (p.c n) := by
  obtain ⟨e1, e2, zs, e3, e4⟩ := hR.cell n hn
  have hB := (hS.box n hn).2
  rw [e1, e2] at hB
  exact ⟨_, zs, hB, e3, e4⟩
/-- a deed as a value -/
def deedV (x : DeedP) : Value := .agg #[.int .i64 x.what, .string ⟨x.s.toArray⟩, .string ⟨x.t.toArray⟩, .bool x.yes]
theorem short_nil : Short [] := ⟨Nat.zero_le _, fun t h => by cases h⟩
set_option maxRecDepth 100000 in
set_option maxHeartbeats 4000000 in
theorem deed_any (N H mb mw : Nat) (p : HouP) (x : DeedP) (w : World) (hh : Hou N w H mb mw p) (hB : InB p 3000000000) (hN : N ≤ w.heap.size) (hs : x.s.length ≤ 1000000) (ht : x.t.length ≤ 1000000) (hG : HG w) (hF : FlagG w) (hFN : 4 < N) :
    Calls Tryz.prog 7 #[.pointer (some ⟨H, 0, none⟩), .agg #[.int .i64 x.what, .string ⟨x.s.toArray⟩, .string ⟨x.t.toArray⟩, .bool x.yes]] w (DoneS N w H mb mw (deedP p x)) := by
  obtain ⟨wh, s, t, yes⟩ := x
  simp only at *
  have y0 : Below w.heap.size w (w.alloc (.cells #[.int .i64 wh, .string ⟨s.toArray⟩, .string ⟨t.toArray⟩, .bool yes] 31)) := (Below.refl _ _).alloc (Nat.le_refl _) _
  have x0 := World.heap_alloc_new w (.cells #[.int .i64 wh, .string ⟨s.toArray⟩, .string ⟨t.toArray⟩, .bool yes] 31)
  have s0 := alloc_size w (.cells #[.int .i64 wh, .string ⟨s.toArray⟩, .string ⟨t.toArray⟩, .bool yes] 31)
  obtain ⟨w1, hw1⟩ : ∃ w1, w.alloc (.cells #[.int .i64 wh, .string ⟨s.toArray⟩, .string ⟨t.toArray⟩, .bool yes] 31) = w1 := ⟨_, rfl⟩
  rw [hw1] at x0 y0 s0
  have hh1 := hh.below y0
  have hG1 := hG.below y0
  have hF1 := hF.below y0
  have hN1 : N ≤ w1.heap.size := by omega
  have hy := y0.mono hN
  obtain ⟨k0, k1, k2, k3⟩ := four_cells x0
  have hXl : w.heap.size < w1.heap.size := by omega
  have hdone : ∀ {r : Option Nat × HouP} {e : Ending} {w' : World}, DoneS N w1 H mb mw r e w' → DoneS N w H mb mw r e w' := fun h => ⟨h.1, h.2.1, hy.trans h.2.2⟩
  clear x0
  unfold deedP
  by_cases h0 : wh = 0
  · subst h0
    rw [if_pos rfl]
    have c := pcreate_any N H mb mw p s w1 hh1 hB hN1 hs hG1
    clear hh hh1 hG hG1 hF hF1
    go_enter Tryz.func7, Tryz.ntmps7
    go_wp2_with (go_at_call 17; go_loud ((with_reducible refine c.mono ?_); rintro e w2 ⟨rfl, hd⟩))
    go_ret
    exact hdone ⟨rfl, hd⟩
  rw [if_neg h0]
  by_cases h1 : wh = 1
  · subst h1
    rw [if_pos rfl]
    have c := pdelete_any N H mb mw p s w1 hh1 hB hN1 hs hG1
    clear hh hh1 hG hG1 hF hF1 h0
    go_enter Tryz.func7, Tryz.ntmps7
    go_wp2_with (go_at_call 20; go_loud ((with_reducible refine c.mono ?_); rintro e w2 ⟨rfl, hd⟩))
    go_ret
    exact hdone ⟨rfl, hd⟩
  rw [if_neg h1]
  by_cases h2 : wh = 2
  · subst h2
    rw [if_pos rfl]
    have c := prename_any N H mb mw p s t w1 hh1 hB hN1 hs ht hG1
    clear hh hh1 hG hG1 hF hF1 h0 h1
    go_enter Tryz.func7, Tryz.ntmps7
    go_wp2_with (go_at_call 12; go_loud ((with_reducible refine c.mono ?_); rintro e w2 ⟨rfl, hd⟩))
    go_ret
    exact hdone ⟨rfl, hd⟩
  rw [if_neg h2]
  by_cases h3 : wh = 3
  · subst h3
    rw [if_pos rfl]
    have c := pwant_any N H mb mw p s yes w1 hh1 hB hN1 hs hG1
    clear hh hh1 hG hG1 hF hF1 h0 h1 h2
    go_enter Tryz.func7, Tryz.ntmps7
    go_wp2_with (go_at_call 24; go_loud ((with_reducible refine c.mono ?_); rintro e w2 ⟨rfl, hd⟩))
    go_ret
    exact hdone ⟨rfl, hd⟩
  rw [if_neg h3]
  by_cases h4 : wh = 4
  · subst h4
    rw [if_pos rfl]
    have hh0 := hh1
    obtain ⟨h, hS, hR⟩ := hh1
    have c := hget_any N H mb mw h s w1 hS hs hG1
    rw [hR.L] at c
    unfold putP
    cases hg : hgetF p.L s with
    | inl k =>
      rw [hg] at c
      have c : Calls Tryz.prog 10 #[.pointer (some ⟨H, 0, none⟩), .string ⟨s.toArray⟩] w1 fun e w' => e = .returned (.tuple #[.pointer none, .iface 55 (.int .i64 (k : Int))]) ∧ Below w1.heap.size w1 w' := c
      have hD : ∀ (w2 : World), Below w1.heap.size w1 w2 → DoneS N w1 H mb mw (some k, p) (.returned (errE (some k))) w2 := fun w2 hb => DoneS.same hh0 hN1 hb
      have HD := Lib.hid hD
      clear hh hS hR hh0 hG hG1 hF hF1 h0 h1 h2 h3 hg hD
      go_enter Tryz.func7, Tryz.ntmps7
      go_wp2_with (go_at_call 10; go_loud ((with_reducible refine c.mono ?_); rintro e w2 ⟨rfl, hb2⟩))
      go_ret
      exact hdone (HD.out _ hb2)
    | inr n =>
      rw [hg] at c
      have c : Calls Tryz.prog 10 #[.pointer (some ⟨H, 0, none⟩), .string ⟨s.toArray⟩] w1 fun e w' => e = .returned (.tuple #[.pointer (some ⟨(h.box n).blk, 0, none⟩), .nilIface]) ∧ Below w1.heap.size w1 w' := c
      have hgn := hget_inr hg
      have hnL : n ∈ h.L := by rw [hR.L]; exact hgn.2
      obtain ⟨B, hBB⟩ : ∃ B, (h.box n).blk = B := ⟨_, rfl⟩
      have hBs := box_of hS hR hnL
      have hNB := (hS.box n hnL).1
      have hbx := hB.box n hgn.2
      rw [hBB] at c hBs hNB
      have hp := fun {w2 : World} {b : BoxP} (hK : Kept (fun k => k = B) w1 w2) (hb : BoxS N w2 B b) => house_put hS hR hnL (hBB ▸ hK) (hBB ▸ hb)
      show Calls _ _ _ _ (DoneS N w H mb mw (match (appB (p.c n) [] 1 t).1 with
        | .inl k => (some k, p)
        | .inr _ => (none, { p with c := updP p.c n (appB (p.c n) [] 1 t).2 })))
      cases ha : (appB (p.c n) [] 1 t).1 with
      | inl k =>
        have cA := fun W (h : Below w1.heap.size w1 W) => app_bad B (p.c n) [] (.slice none 0 0) 1 t k W (hBs.below h).at (SRow.nil W) short_nil ht (hF1.below h) ha (by omega)
        have hD : ∀ (w2 : World), Below w1.heap.size w1 w2 → DoneS N w1 H mb mw (some k, p) (.returned (errE (some k))) w2 := fun w2 hb => DoneS.same hh0 hN1 hb
        have HD := Lib.hid hD
        clear hh hS hR hh0 hG hG1 hF hF1 h0 h1 h2 h3 hg hD hp hBs hBB hgn hnL hNB hbx ha
        go_enter Tryz.func7, Tryz.ntmps7
        go_wp2_with (first
          | (go_at_call 10; go_loud ((with_reducible refine c.mono ?_); rintro e w2 ⟨rfl, hb2⟩; have k2 := (hb2.cell (p := ⟨w.heap.size, 2, none⟩) hXl).trans k2))
          | (go_at_call 25; go_loud ((with_reducible refine (cA _ hb2).mono ?_); rintro e w3 ⟨rfl, hb3⟩)))
        go_ret
        exact hdone (HD.out _ (hb2.trans (hb3.mono hb2.size)))
      | inr m =>
        have cA := fun W (h : Below w1.heap.size w1 W) => app_good N B (p.c n) [] (.slice none 0 0) 1 t m W (hBs.below h) hNB (SRow.nil W) short_nil (hF1.below h) ha hbx.1
        have hD : ∀ (w2 w3 : World), Below w1.heap.size w1 w2 → BoxS N w3 B (appB (p.c n) [] 1 t).2 → Kept (fun k => k = B) w2 w3 → DoneS N w1 H mb mw (none, { p with c := updP p.c n (appB (p.c n) [] 1 t).2 }) (.returned (errE none)) w3 := fun w2 w3 hb hx hK => ⟨rfl, hp ((kept_below hb).trans hK) hx, ((kept_below hb).trans hK).below hN1 (fun k e => e ▸ hNB)⟩
        have HD := Lib.hid hD
        clear hh hS hR hh0 hG hG1 hF hF1 h0 h1 h2 h3 hg hD hp hBs hBB hgn hnL hNB hbx ha
        go_enter Tryz.func7, Tryz.ntmps7
        go_wp2_with (first
          | (go_at_call 10; go_loud ((with_reducible refine c.mono ?_); rintro e w2 ⟨rfl, hb2⟩; have k2 := (hb2.cell (p := ⟨w.heap.size, 2, none⟩) hXl).trans k2))
          | (go_at_call 25; go_loud ((with_reducible refine (cA _ hb2).mono ?_); rintro e w3 ⟨rfl, hx3, hK3⟩)))
        go_ret
        exact hdone (HD.out _ _ hb2 hx3 hK3)
  rw [if_neg h4]
  have hD : DoneS N w1 H mb mw (none, p) (.returned (errE none)) w1 := DoneS.same hh1 hN1 (Below.refl _ _)
  clear hh hh1 hG hG1 hF hF1
  go_enter Tryz.func7, Tryz.ntmps7
  go_wp2_with fail
  go_ret
  exact hdone hD
end Go.Proofs.YtdlfbhbgemoelaaGreatDoor
namespace Go.Proofs.YtdlfbhbgemoelaaGreatDoor
open Go.RowKit Go.Shelf Go.Sort Go.Maps
set_option linter.unusedSimpArgs false

/-- a row of deeds -/
def DRow (w : World) (v : Value) (l : List DeedP) : Prop := ∃ ao cap, v = .slice ao l.length cap ∧ l.length ≤ cap ∧ (cap ≤ 9223372036854775807 ∧ (ao = none → cap = 0)) ∧ ∀ (j : Nat) (x : DeedP), l[j]? = some x → ∃ b off, ao = some ⟨b, off, none⟩ ∧ b < w.heap.size ∧
  w.cell? ⟨b, off + j * 4, none⟩ = some (.int .i64 x.what) ∧ w.cell? ⟨b, off + j * 4 + 1, none⟩ = some (.string ⟨x.s.toArray⟩) ∧ w.cell? ⟨b, off + j * 4 + 2, none⟩ = some (.string ⟨x.t.toArray⟩) ∧ w.cell? ⟨b, off + j * 4 + 3, none⟩ = some (.bool x.yes)
def deedSm (x : DeedP) : Bool := decide (x.s.length ≤ 100) && decide (x.t.length ≤ 100)
def smallD (l : List DeedP) : Bool := decide (l.length ≤ 40) && l.all deedSm
set_option maxRecDepth 100000 in
set_option maxHeartbeats 4000000 in
theorem smallD_any (v : Value) (l : List DeedP) (w : World) (hv : DRow w v l) (ht : ∀ x ∈ l, x.s.length ≤ 9223372036854775807 ∧ x.t.length ≤ 9223372036854775807) :
    Calls Tryz.prog 4 #[v] w fun e w' => e = .returned (.bool (smallD l)) ∧ w = w' := by
  obtain ⟨ao, cap, rfl, hcap, ⟨hcm, _⟩, hcell⟩ := hv
  have HC := Lib.hid hcell
  have HT := Lib.hid ht
  obtain ⟨R, hR⟩ : ∃ R, smallD l = R := ⟨_, rfl⟩
  rw [hR]
  clear hcell ht
  by_cases h40 : (40 : Int) < (l.length : Int)
  · have hX : R = false := by
      rw [← hR]; unfold smallD
      rw [decide_eq_false (by omega)]; rfl
    subst hX
    clear hR
    go_enter Tryz.func4, Tryz.ntmps4
    go_wp2_with fail
    go_ret
    exact ⟨rfl, rfl⟩
  · have HR : Hid (R = (l.drop 0).all deedSm) := by
      show _ = _
      rw [← hR]; unfold smallD
      rw [decide_eq_true (by omega)]; rfl
    clear hR
    go_enter Tryz.func4, Tryz.ntmps4
    go_wp2_with fail
    go_loopg [3] l.length (fun g3 s3 wr => ∃ k : Nat, k + g3 = l.length ∧ s3 = .int .i64 (k : Int) ∧ w = wr ∧ Hid (R = (l.drop k).all deedSm))
    case atStart => exact ⟨0, by omega, rfl, rfl, HR.out⟩
    case round =>
      obtain ⟨k, hk, rfl, rfl, HK⟩ := hrel
      clear HR
      by_cases hlt : k < l.length
      · obtain ⟨g', rfl⟩ : ∃ g', gk = g' + 1 := ⟨gk - 1, by omega⟩
        obtain ⟨x, hx⟩ : ∃ x, l[k]? = some x := ⟨l[k], List.getElem?_eq_getElem hlt⟩
        obtain ⟨b, off, rfl, hb, _, c1, c2, _⟩ := HC.out k x hx
        obtain ⟨hx1, hx2⟩ := HT.out x (List.mem_of_getElem? hx)
        have hts := text_size x.s
        have htt := text_size x.t
        have hdr : l.drop k = x :: l.drop (k + 1) := by
          rw [List.drop_eq_getElem_cons hlt]
          rw [List.getElem?_eq_getElem hlt] at hx
          rw [Option.some.inj hx]
        have hK := HK.out
        rw [hdr, List.all_cons] at hK
        unfold deedSm at hK
        have hkz : (k : Int) < (l.length : Int) := by omega
        by_cases h1 : (100 : Int) < (x.s.length : Int)
        · have hX : R = false := by rw [hK, decide_eq_false (by omega)]; rfl
          subst hX
          clear hK HK hdr hx
          go_wp2_with fail
          go_ret
          exact ⟨rfl, rfl⟩
        by_cases h2 : (100 : Int) < (x.t.length : Int)
        · have hX : R = false := by rw [hK, decide_eq_true (show x.s.length ≤ 100 by omega), decide_eq_false (by omega)]; rfl
          subst hX
          clear hK HK hdr hx
          go_wp2_with fail
          go_ret
          exact ⟨rfl, rfl⟩
        · have HK2 : Hid (R = (l.drop (k + 1)).all deedSm) := by show _ = _; rw [hK, decide_eq_true (show x.s.length ≤ 100 by omega), decide_eq_true (show x.t.length ≤ 100 by omega)]; rfl
          clear hK HK hdr hx
          go_wp2_with fail
          go_roundg g'
          case measure => omega
          case rel => exact ⟨k + 1, by omega, by go_num, rfl, HK2.out⟩
      · have hX : R = true := by rw [HK.out, List.drop_eq_nil_of_le (by omega)]; rfl
        subst hX
        clear HK
        go_wp2_with fail
        go_ret
        exact ⟨rfl, rfl⟩
theorem smallD_iff {l : List DeedP} (h : smallD l = true) : l.length ≤ 40 ∧ ∀ x ∈ l, x.s.length ≤ 100 ∧ x.t.length ≤ 100 := by
  unfold smallD deedSm at h
  simp only [Bool.and_eq_true, decide_eq_true_eq, List.all_eq_true] at h
  exact h
/-- a new house as plain data -/
def newP : HouP := mkP ⟨[], fun _ => ⟨0, 0, []⟩, [], 1⟩ inboxB
theorem new_hou {w w' : World} {H mb mw B : Nat} (h : HouseS w.heap.size w' H mb mw (makeC emptyH inboxB B)) : Hou w.heap.size w' H mb mw newP :=
  ⟨_, h, RelH.make (h := emptyH) (p := ⟨[], fun _ => ⟨0, 0, []⟩, [], 1⟩) ⟨rfl, rfl, rfl, fun x hx => by cases hx⟩ inboxB B⟩
theorem new_inB : InB newP 2 := by
  refine ⟨by decide, by decide, by decide, by decide, fun x hx => ?_⟩
  show 0 ≤ (updP _ inboxB ⟨1, 1, []⟩ x).next ∧ (updP _ inboxB ⟨1, 1, []⟩ x).ls.length ≤ 60
  unfold updP
  split
  · exact ⟨by decide, by decide⟩
  · exact ⟨Int.le_refl _, Nat.zero_le _⟩
theorem tell_errE (o : Option Nat) (w : World) (hE : ErrTy w) : Calls Tryz.prog 19 #[errE o] w fun e w' => e = .returned (.int .i64 ((o.getD 0 : Nat) : Int)) ∧ Below w.heap.size w w' := by
  cases o with
  | none => exact (tell_nil w).mono (by rintro e w' ⟨rfl, rfl⟩; exact ⟨rfl, Below.refl _ _⟩)
  | some k => exact tell_errno (k : Int) w hE
theorem mkAllP_W (l : List Bs) (p : HouP) : (mkAllP p l).W = p.W := (mkAllP_L l p).2.1
theorem deed_W {p : HouP} {x : DeedP} (h : x.what ≠ 3) : (deedP p x).2.W = p.W := by
  unfold deedP
  split
  · unfold createP
    split
    · rfl
    · exact mkAllP_W _ _
  split
  · unfold deleteP
    split <;> rfl
  split
  · unfold renameP
    split
    · rfl
    · split
      · rfl
      · split
        · split
          · rfl
          · exact mkAllP_W _ _
        · split
          · rfl
          · exact (mkAllP_W _ _).trans (moveAllP_L _ _ _ _).2.1
  split
  · unfold putP
    split
    · rfl
    · split <;> rfl
  · rfl
end Go.Proofs.YtdlfbhbgemoelaaGreatDoor
