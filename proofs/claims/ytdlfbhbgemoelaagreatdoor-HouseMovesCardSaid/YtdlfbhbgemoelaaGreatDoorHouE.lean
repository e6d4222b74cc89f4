/- The walks over a house's make, New, Names, Get, above. Conditions: utf8's two tables and bytealg.MaxLen lie as the program's text lays them (where a name is read). The walks over a house's Names, Get, above. Conditions: utf8's two tables and bytealg.MaxLen lie as the program's text lays them (where a name is read). The walks over house.New and a house's Create. Conditions: utf8's two tables and bytealg.MaxLen lie as the program's text lays them. The walk over a house's Create. Conditions: utf8's two tables and bytealg.MaxLen lie as the program's text lays them. -/
import Derived.Test.YtdlfbhbgemoelaaGreatDoorHouA
import Derived.Test.YtdlfbhbgemoelaaGreatDoorKeys
import Derived.Deep.RegionHeld3
import Derived.IntWalk
import Derived.Test.YtdlfbhbgemoelaaGreatDoorSRow
import Derived.Test.YtdlfbhbgemoelaaGreatDoorByteAt
import Derived.Test.YtdlfbhbgemoelaaGreatDoorPHouse6
namespace Go.Proofs.YtdlfbhbgemoelaaGreatDoor
open Go.RowKit Go.Shelf Go.Sort Go.Maps

theorem kresults_noneH {P : Program} {fn : Func} (h : fn.results = #[]) (tmps : Array Value) (w : World) : (results fn tmps).run P w = .ok (.tuple #[]) w := by
  simp [results, h, go_sem]
theorem HouseS.kept {N : Nat} {w w' : World} {H mb mw : Nat} {h : HouseC} {S : Nat → Prop} (hS : HouseS N w H mb mw h) (hk : Kept S w w') (h1 : ¬ S H) (h2 : ¬ S mb) (h3 : ¬ S mw) (h4 : ∀ x ∈ h.L, ¬ S (h.box x).blk) : HouseS N w' H mb mw h :=
  { hS with cells := hk.obj hS.cells h1, boxes := hS.boxes.kept hk h2, wants := hS.wants.kept hk h3, box := fun x hx => ⟨(hS.box x hx).1, hk.obj (hS.box x hx).2 (h4 x hx)⟩ }
theorem HouseS.below {N : Nat} {w w' : World} {H mb mw : Nat} {h : HouseC} (hS : HouseS N w H mb mw h) (hb : Below w.heap.size w w') : HouseS N w' H mb mw h := hS.kept (S := fun _ => False) (kept_below hb) id id id (fun _ _ => id)
theorem HouseS.lt {N : Nat} {w : World} {H mb mw : Nat} {h : HouseC} (hS : HouseS N w H mb mw h) : H < w.heap.size ∧ mb < w.heap.size ∧ mw < w.heap.size := by
  obtain ⟨es, c, hb⟩ := hS.boxes.obj
  obtain ⟨es', c', hw⟩ := hS.wants.obj
  exact ⟨(Array.getElem?_eq_some_iff.1 hS.cells).1, (Array.getElem?_eq_some_iff.1 hb).1, (Array.getElem?_eq_some_iff.1 hw).1⟩
theorem HouseS.nes {N : Nat} {w : World} {H mb mw : Nat} {h : HouseC} (hS : HouseS N w H mb mw h) : H ≠ mb ∧ H ≠ mw := by
  obtain ⟨es, c, hb⟩ := hS.boxes.obj
  obtain ⟨es', c', hw⟩ := hS.wants.obj
  exact ⟨ne_of_obj hS.cells hb (by simp), ne_of_obj hS.cells hw (by simp)⟩
theorem HouseS.box_ne {N : Nat} {w : World} {H mb mw : Nat} {h : HouseC} (hS : HouseS N w H mb mw h) {x : Bs} (hx : x ∈ h.L) : (h.box x).blk ≠ H ∧ (h.box x).blk ≠ mb ∧ (h.box x).blk ≠ mw ∧ (h.box x).blk < w.heap.size := by
  obtain ⟨es, c, hb⟩ := hS.boxes.obj
  obtain ⟨es', c', hw⟩ := hS.wants.obj
  have h1 := (hS.box x hx).2
  exact ⟨ne_of_obj h1 hS.cells (by intro e; cases e), ne_of_obj h1 hb (by simp), ne_of_obj h1 hw (by simp), (Array.getElem?_eq_some_iff.1 h1).1⟩
def boxO (next : Int) : Obj := .cells #[.int .i64 next, .int .i64 1, .slice none 0 0] 48
theorem house_made {N : Nat} {w w1 : World} {H mb mw : Nat} {h : HouseC} {s : Bs} (hS : HouseS N w H mb mw h) (hN : N ≤ w.heap.size) (hs : s ∉ h.L) (hl : s.length ≤ 60)
    (hP : PM w1 mb (insS s h.L) (fun x => if x = s then w.heap.size else (h.box x).blk)) (hK : Kept (fun k => k = mb) (w.alloc (boxO h.next)) w1) :
    HouseS N (w1.setCell ⟨H, 2, none⟩ (.int .i64 (h.next + 1))) H mb mw (makeC h s w.heap.size) ∧ Kept (fun k => k = H ∨ k = mb) w (w1.setCell ⟨H, 2, none⟩ (.int .i64 (h.next + 1))) := by
  have hlt := hS.lt
  have hne := hS.nes
  have hka : Kept (fun k => k = mb) w w1 := ((Kept.refl _ w).alloc _).trans (hK.mono (fun _ _ e => e))
  have hk2 : Kept (fun k => k = H ∨ k = mb) w (w1.setCell ⟨H, 2, none⟩ (.int .i64 (h.next + 1))) := Kept.set (S := fun k => k = H ∨ k = mb) (hka.mono (fun _ _ e => Or.inr e)) (p := ⟨H, 2, none⟩) (fun _ => Or.inl rfl) _
  have hks : Kept (fun k => k = H) w1 (w1.setCell ⟨H, 2, none⟩ (.int .i64 (h.next + 1))) := Kept.set (S := fun k => k = H) (Kept.refl _ w1) (p := ⟨H, 2, none⟩) (fun _ => rfl) _
  have hfst : ∀ x ∈ h.L, x ≠ s := fun x hx e => hs (e ▸ hx)
  refine ⟨{ loH := hS.loH, lob := hS.lob, low := hS.low, cells := ?_, boxes := ?_, wants := ?_, ne := hS.ne, box := ?_, inj := ?_, lenL := ?_, lenW := hS.lenW, slc := ?_ }, hk2⟩
  · exact set3_2 (hka.obj hS.cells hne.1)
  · refine (hP.kept hks (fun e => hne.1 e.symm)).congr fun x _ => ?_
    show (updB h.box s _ x).blk = _
    unfold updB
    split <;> rfl
  · exact hS.wants.kept hk2 (fun e => e.elim (fun e => hne.2 e.symm) (fun e => hS.ne e.symm))
  · intro x hx
    show N ≤ (updB h.box s ⟨w.heap.size, h.next, 1, .slice none 0 0⟩ x).blk ∧ _
    have hnew : (w.alloc (boxO h.next)).heap[w.heap.size]? = some (boxO h.next) := World.heap_alloc_new _ _
    by_cases e : x = s
    · subst e
      have : updB h.box x ⟨w.heap.size, h.next, 1, .slice none 0 0⟩ x = ⟨w.heap.size, h.next, 1, .slice none 0 0⟩ := by unfold updB; rw [if_pos rfl]
      show _ ∧ (w1.setCell _ _).heap[(updB h.box x ⟨w.heap.size, h.next, 1, .slice none 0 0⟩ x).blk]? = some (.cells #[.int .i64 (updB h.box x ⟨w.heap.size, h.next, 1, .slice none 0 0⟩ x).valid, .int .i64 (updB h.box x ⟨w.heap.size, h.next, 1, .slice none 0 0⟩ x).next, (updB h.box x ⟨w.heap.size, h.next, 1, .slice none 0 0⟩ x).lv] _ _)
      rw [this]
      exact ⟨hN, hks.obj (hK.obj hnew (by show ¬ (w.heap.size = mb); omega)) (by show ¬ (w.heap.size = H); omega)⟩
    · have hxL : x ∈ h.L := (mem_insS.1 hx).resolve_left e
      have : updB h.box s ⟨w.heap.size, h.next, 1, .slice none 0 0⟩ x = h.box x := by unfold updB; rw [if_neg e]
      show _ ∧ (w1.setCell _ _).heap[(updB h.box s ⟨w.heap.size, h.next, 1, .slice none 0 0⟩ x).blk]? = some (.cells #[.int .i64 (updB h.box s ⟨w.heap.size, h.next, 1, .slice none 0 0⟩ x).valid, .int .i64 (updB h.box s ⟨w.heap.size, h.next, 1, .slice none 0 0⟩ x).next, (updB h.box s ⟨w.heap.size, h.next, 1, .slice none 0 0⟩ x).lv] _ _)
      rw [this]
      have hb := hS.box_ne hxL
      exact ⟨(hS.box x hxL).1, hk2.obj (hS.box x hxL).2 (fun e => e.elim hb.1 hb.2.1)⟩
  · intro x hx y hy hxy
    have key : ∀ z, z ∈ insS s h.L → (z = s ∧ ((makeC h s w.heap.size).box z).blk = w.heap.size) ∨ (z ∈ h.L ∧ z ≠ s ∧ ((makeC h s w.heap.size).box z).blk = (h.box z).blk ∧ (h.box z).blk < w.heap.size) := fun z hz => by
      by_cases e : z = s
      · left
        refine ⟨e, ?_⟩
        show (updB h.box s _ z).blk = _
        unfold updB
        rw [if_pos e]
      · right
        have hzL : z ∈ h.L := (mem_insS.1 hz).resolve_left e
        refine ⟨hzL, e, ?_, (hS.box_ne hzL).2.2.2⟩
        show (updB h.box s _ z).blk = _
        unfold updB
        rw [if_neg e]
    rcases key x hx with ⟨rfl, e1⟩ | ⟨h1, h2, e1, h3⟩ <;> rcases key y hy with ⟨rfl, e2⟩ | ⟨h4, h5, e2, h6⟩
    · rfl
    · omega
    · omega
    · exact hS.inj x h1 y h4 (by rw [← e1, ← e2, hxy])
  · intro x hx
    rcases mem_insS.1 hx with rfl | hx
    · exact hl
    · exact hS.lenL x hx
  · intro x hx
    show ∃ a n c, (updB h.box s ⟨w.heap.size, h.next, 1, .slice none 0 0⟩ x).lv = .slice a n c
    by_cases e : x = s
    · unfold updB; rw [if_pos e]; exact ⟨_, _, _, rfl⟩
    · unfold updB; rw [if_neg e]; exact hS.slc x ((mem_insS.1 hx).resolve_left e)
/-- what make leaves -/
def MadeS (N : Nat) (w : World) (H mb mw : Nat) (h : HouseC) (s : Bs) (w' : World) : Prop := ∃ B, w.heap.size ≤ B ∧ HouseS N w' H mb mw (makeC h s B) ∧ Kept (fun k => k = H ∨ k = mb) w w'
set_option maxRecDepth 100000 in
set_option maxHeartbeats 4000000 in
theorem hmake_any (N H mb mw : Nat) (h : HouseC) (s : Bs) (w : World) (hS : HouseS N w H mb mw h) (hN : N ≤ w.heap.size) (hs : s ∉ h.L) (hl : s.length ≤ 60) (hm : h.L.length ≤ 1000) (h0 : 0 ≤ h.next) (h1 : h.next ≤ 4000000000) :
    Calls Tryz.prog 23 #[.pointer (some ⟨H, 0, none⟩), .string ⟨s.toArray⟩] w fun e w' => e = .returned (.tuple #[]) ∧ MadeS N w H mb mw h s w' := by
  have hlt := hS.lt
  have hne := hS.nes
  obtain ⟨c0, c1, c2⟩ := three_cells hS.cells
  have hcl := hS.cells
  obtain ⟨nx, hnx⟩ : ∃ nx, h.next = nx := ⟨_, rfl⟩
  rw [hnx] at c2 h0 h1
  have hfin : ∀ w1, PM w1 mb (insS s h.L) (fun x => if x = s then w.heap.size else (h.box x).blk) → Kept (fun k => k = mb) (w.drew.alloc (boxO nx)) w1 → MadeS N w H mb mw h s (w1.setCell ⟨H, 2, none⟩ (.int .i64 (nx + 1))) := fun w1 hP hK => by
    subst hnx
    obtain ⟨r1, r2⟩ := house_made (w := w.drew) (hS.below (Below.refl _ _).drew) hN hs hl hP hK
    exact ⟨_, Nat.le_refl _, r1, (kept_below (Below.refl _ _).drew).trans r2⟩
  have hcellK : ∀ w1, Kept (fun k => k = mb) (w.drew.alloc (boxO nx)) w1 → w1.heap[H]? = some (.cells #[.map (some mb), .map (some mw), .int .i64 nx] 61 (0, 0)) := fun w1 hK => by
    rw [← hnx]
    exact hK.obj (alloc_at (w := w.drew) hcl) hne.1
  have hPM : PM (w.alloc (boxO nx)).drew mb h.L (fun x => (h.box x).blk) := hS.boxes.below (((Below.refl _ w).alloc (Nat.le_refl _) _).drew)
  obtain ⟨w1, hrun, hP1, hK1⟩ := pm_store_run hPM (s := s) (by omega) w.heap.size (by omega)
  have hd := hfin w1 hP1 hK1
  have hw1 := hcellK w1 hK1
  obtain ⟨d0, d1, d2⟩ := three_cells hw1
  have df := Lib.frozen_of_heap hw1
  have HD := Lib.hid hd
  have HA : Hid ((w.alloc (boxO nx)).drew.heap[H]? = some (.cells #[.map (some mb), .map (some mw), .int .i64 nx] 61 (0, 0))) := Lib.hid (hcellK _ (Kept.refl _ _))
  have cd0 : w.drew.cell? ⟨H, 0, none⟩ = some (.map (some mb)) := c0
  have cd2 : w.drew.cell? ⟨H, 2, none⟩ = some (.int .i64 nx) := c2
  have hwr : IntKind.i64.wrap (nx + 1) = nx + 1 := IntWalk.i64_in _ (by omega)
  unfold boxO at hrun HA
  clear hfin hcellK hPM hcl hS hnx c0 c1 c2 hP1 hK1 hd hw1
  go_enter Tryz.func23, Tryz.ntmps23
  go_wp2_with fail
  go_region_held3 (fun W => W.cell? ⟨H, 0, none⟩ = some (.map (some mb)) ∧ W.cell? ⟨H, 2, none⟩ = some (.int .i64 nx))
    (first | exact ⟨cd0, cd2⟩ | exact ⟨(three_cells HA.out).1, (three_cells HA.out).2.2⟩ | exact ⟨d0, d2⟩)
    (fail)
  go_wp2_with fail
  exact ⟨rfl, _, kresults_noneH rfl _ _, rfl, HD.out⟩
end Go.Proofs.YtdlfbhbgemoelaaGreatDoor
namespace Go.Proofs.YtdlfbhbgemoelaaGreatDoor
open Go.RowKit Go.Shelf Go.Sort Go.Maps

/-- names are brought in a new row -/
def NamesS (N : Nat) (w : World) (L : List Bs) (e : Ending) (w' : World) : Prop := ∃ v, e = .returned v ∧ w'.ownsRow N 9 1 v L.length (L.map encStr) ∧ Below w.heap.size w w'
set_option maxRecDepth 100000 in
set_option maxHeartbeats 2000000 in
theorem hnames_any (N H mb mw : Nat) (h : HouseC) (w : World) (hS : HouseS N w H mb mw h) (hm : h.L.length ≤ 100000) :
    Calls Tryz.prog 18 #[.pointer (some ⟨H, 0, none⟩)] w (NamesS w.heap.size w h.L) := by
  obtain ⟨c0, c1, c2⟩ := three_cells hS.cells
  obtain ⟨D, hown, hMK⟩ := hS.boxes
  have cK := keysB_any (some mb) w
  have cS := sortedB_any mb _ D ptrR h.L .nil _ w hown hMK (by omega)
  clear hown hMK hS
  go_enter Tryz.func18, Tryz.ntmps18
  go_wp2_with (first
    | (go_at_call 45; ((with_reducible refine cK.mono ?_); rintro e w1 ⟨rfl, rfl⟩))
    | (go_at_call 33; ((with_reducible refine cS.mono ?_); rintro e w2 ⟨v, rfl, hrow, hb⟩)))
  go_ret
  exact ⟨v, rfl, hrow, hb⟩
def hgetV (h : HouseC) (r : Nat ⊕ Bs) : Value := match r with
  | .inl m => .tuple #[.pointer none, eno m]
  | .inr n => .tuple #[.pointer (some ⟨(h.box n).blk, 0, none⟩), .nilIface]
set_option maxRecDepth 100000 in
set_option maxHeartbeats 2000000 in
theorem hget_any (N H mb mw : Nat) (h : HouseC) (s : Bs) (w : World) (hS : HouseS N w H mb mw h) (hs : s.length ≤ 1000000) (hG : HG w) :
    Calls Tryz.prog 10 #[.pointer (some ⟨H, 0, none⟩), .string ⟨s.toArray⟩] w fun e w' => e = .returned (hgetV h (hgetF h.L s)) ∧ Below w.heap.size w w' := by
  have cN := hname_any s w hs hG
  have HS := Lib.hid hS
  clear hS
  unfold hgetF
  cases hn : hnameF s with
  | none =>
    rw [hn] at cN
    have cN : Calls Tryz.prog 8 #[.string ⟨s.toArray⟩] w fun e w' => e = .returned (.tuple #[.string ⟨#[]⟩, .iface 55 (.int .i64 1)]) ∧ Below w.heap.size w w' := cN
    clear hn HS
    go_enter Tryz.func10, Tryz.ntmps10
    go_wp2_with (go_at_call 8; ((with_reducible refine cN.mono ?_); rintro e w1 ⟨rfl, hb1⟩))
    go_ret2
    exact ⟨rfl, hb1⟩
  | some n =>
    rw [hn] at cN
    have cN : Calls Tryz.prog 8 #[.string ⟨s.toArray⟩] w fun e w' => e = .returned (.tuple #[.string ⟨n.toArray⟩, .nilIface]) ∧ Below w.heap.size w w' := cN
    have hl := (hnameF_len hn).1
    clear hn
    by_cases hm : n ∈ h.L
    · show Calls _ _ _ _ fun e w' => e = .returned (hgetV h (if n ∈ h.L then .inr n else .inl 7)) ∧ _
      rw [if_pos hm]
      have cL : ∀ W, Below w.heap.size w W → (Instr.lookup 58 (.map (some mb)) (.string ⟨n.toArray⟩) false).run Tryz.prog W = .ok (.pointer (some ⟨(h.box n).blk, 0, none⟩)) W ∧ W.cell? ⟨H, 0, none⟩ = some (.map (some mb)) := fun W hW => ⟨pm_look_yes (HS.out.boxes.below hW) (by omega) hm, (three_cells (HS.out.below hW).cells).1⟩
      clear hm
      go_enter Tryz.func10, Tryz.ntmps10
      go_wp2_with (go_at_call 8; ((with_reducible refine cN.mono ?_); rintro e w1 ⟨rfl, hb1⟩; obtain ⟨hr, hc⟩ := cL _ hb1))
      go_ret2
      exact ⟨rfl, hb1⟩
    · show Calls _ _ _ _ fun e w' => e = .returned (hgetV h (if n ∈ h.L then .inr n else .inl 7)) ∧ _
      rw [if_neg hm]
      have cL : ∀ W, Below w.heap.size w W → (Instr.lookup 58 (.map (some mb)) (.string ⟨n.toArray⟩) false).run Tryz.prog W = .ok (.pointer none) W ∧ W.cell? ⟨H, 0, none⟩ = some (.map (some mb)) := fun W hW => ⟨pm_look_no (HS.out.boxes.below hW) (by omega) hm, (three_cells (HS.out.below hW).cells).1⟩
      clear hm
      go_enter Tryz.func10, Tryz.ntmps10
      go_wp2_with (go_at_call 8; ((with_reducible refine cN.mono ?_); rintro e w1 ⟨rfl, hb1⟩; obtain ⟨hr, hc⟩ := cL _ hb1))
      go_ret2
      exact ⟨rfl, hb1⟩
theorem above_succ (L : List Bs) (n : Bs) (k : Nat) : haboveK L n (k + 1) = if ((n.getD k 0 == 47) && !decide (n.take k ∈ L)) = true then haboveK L n k ++ [n.take k] else haboveK L n k := by
  unfold haboveK
  rw [List.range_succ, List.filter_append, List.map_append]
  split
  · rename_i h; rw [List.filter_cons, if_pos h]; rfl
  · rename_i h; rw [List.filter_cons, if_neg h]; simp
theorem above_len (L : List Bs) (n : Bs) (k : Nat) : (haboveK L n k).length ≤ k := by
  unfold haboveK
  rw [List.length_map]
  exact Nat.le_trans (List.length_filter_le _ _) (by simp)
set_option maxRecDepth 100000 in
set_option maxHeartbeats 4000000 in
theorem habove_any (N H mb mw : Nat) (h : HouseC) (n : Bs) (w : World) (hS : HouseS N w H mb mw h) (hn : n.length ≤ 100000) :
    Calls Tryz.prog 37 #[.pointer (some ⟨H, 0, none⟩), .string ⟨n.toArray⟩] w (NamesS w.heap.size w (haboveF h.L n)) := by
  have tn := text_size n
  have HS := Lib.hid hS
  clear hS
  go_enter Tryz.func37, Tryz.ntmps37
  go_wp2_with fail
  go_loopg [9, 5] n.length (fun g s9 s5 wr => ∃ (k : Nat) (v : Value), k + g = n.length ∧ s9 = .int .i64 (k : Int) ∧ v = s5 ∧ wr.ownsRow w.heap.size 9 1 v (haboveK h.L n k).length ((haboveK h.L n k).map encStr) ∧ Below w.heap.size w wr)
  case atStart => exact ⟨0, _, by omega, rfl, rfl, World.ownsRow_nil _ _ _ _, Below.refl _ _⟩
  case round =>
    obtain ⟨k, v, hk, rfl, rfl, hrow, hbr⟩ := hrel
    by_cases hlt : k < n.length
    · obtain ⟨g', rfl⟩ : ∃ g', gk = g' + 1 := ⟨gk - 1, by omega⟩
      obtain ⟨c, hc⟩ : ∃ c, n[k]? = some c := ⟨n[k], List.getElem?_eq_getElem hlt⟩
      have hx : ∀ h, (⟨n.toArray⟩ : ByteArray)[k]'h = c := byte_at hc
      have hgd : n.getD k 0 = c := by rw [List.getD_eq_getElem?_getD, hc]; rfl
      have hsu := above_succ h.L n k
      rw [hgd] at hsu
      have hal := above_len h.L n k
      have hkz : (k : Int) < (n.length : Int) := by omega
      have hpt : (⟨n.toArray⟩ : ByteArray).extract 0 k = ⟨(n.take k).toArray⟩ := by rw [text_part]; simp
      have hc0 := (three_cells (HS.out.below hbr).cells).1
      obtain ⟨A, hA⟩ : ∃ A, haboveK h.L n k = A := ⟨_, rfl⟩
      rw [hA] at hrow hsu hal
      obtain ⟨ao, cap, rfl⟩ := owns_val hrow
      have HROW := Lib.hid hrow
      have HBR := Lib.hid hbr
      clear hc hgd hA hrow hbr
      by_cases h47 : c = 47
      · subst h47
        by_cases hm : n.take k ∈ h.L
        · have hL : ∀ q, (Instr.lookup 58 (.map (some mb)) (.string ⟨(n.take k).toArray⟩) false).run Tryz.prog (wr.drewN q) = .ok (.pointer (some ⟨(h.box (n.take k)).blk, 0, none⟩)) (wr.drewN q) := fun q => pm_look_yes (HS.out.boxes.below (HBR.out.trans ((below_drewN wr q).mono HBR.out.size))) (by rw [List.length_take]; omega) hm
          have hsu : haboveK h.L n (k + 1) = A := by rw [hsu, decide_eq_true hm]; rfl
          have HSU := Lib.hid hsu
          clear hm hsu
          go_wp2_with fail
          go_quiet (fail)
          go_wp2_with fail
          go_roundg g'
          case measure => omega
          case rel => exact ⟨k + 1, _, by omega, by go_num, rfl, by rw [HSU.out]; exact HROW.out, HBR.out.trans ((below_drewN wr _).mono HBR.out.size)⟩
        · have hL : ∀ q, (Instr.lookup 58 (.map (some mb)) (.string ⟨(n.take k).toArray⟩) false).run Tryz.prog (wr.drewN q) = .ok (.pointer none) (wr.drewN q) := fun q => pm_look_no (HS.out.boxes.below (HBR.out.trans ((below_drewN wr q).mono HBR.out.size))) (by rw [List.length_take]; omega) hm
          have hsu : haboveK h.L n (k + 1) = A ++ [n.take k] := by rw [hsu, decide_eq_false hm]; rfl
          have HSU := Lib.hid hsu
          clear hm hsu
          go_wp2_with fail
          go_quiet (fail)
          have hrq : (wr.drewN nq).ownsRow w.heap.size 9 1 (.slice ao A.length cap) A.length (A.map encStr) := HROW.out
          have hbq : Below w.heap.size w (wr.drewN nq) := HBR.out.trans ((below_drewN wr _).mono HBR.out.size)
          generalize wr.drewN nq = wq at hrq hbq ⊢
          have hsz := hbq.size
          clear hL
          go_wp2_with (at_builtin; go_must (refine wpList_app1 rfl _ _ 38 rfl 9 Tryz.underlying38 str_info rfl w.heap.size _ _ _ _ rfl hrq _ rfl rfl ?hn (by decide) hsz ?_))
          case hn => omega
          intro v' w3 o3 g3 hv3
          have hb3 := below_app hbq hsz hrq g3
          go_wp2_with fail
          go_roundg g'
          case measure => omega
          case rel => exact ⟨k + 1, _, by omega, by go_num, rfl, by rw [HSU.out, List.length_append, List.map_append]; exact o3, hb3⟩
      · have h47b : ((c.toNat : Int) == 47) = false := by
          rw [beq_eq_false_iff_ne]; intro e; exact h47 (UInt8.toNat_inj.1 (by show c.toNat = 47; omega))
        have hsu : haboveK h.L n (k + 1) = A := by
          rw [hsu, if_neg]
          have : (c == 47) = false := by rw [beq_eq_false_iff_ne]; exact h47
          rw [this]; simp
        have HSU := Lib.hid hsu
        clear hsu
        go_wp2_with fail
        go_quiet (fail)
        go_wp2_with fail
        go_roundg g'
        case measure => omega
        case rel => exact ⟨k + 1, _, by omega, by go_num, rfl, by rw [HSU.out]; exact HROW.out, HBR.out.trans ((below_drewN wr _).mono HBR.out.size)⟩
    · obtain rfl : k = n.length := by omega
      have HROW := Lib.hid hrow
      clear hrow
      go_wp2_with fail
      go_ret
      exact ⟨_, rfl, HROW.out, hbr⟩
end Go.Proofs.YtdlfbhbgemoelaaGreatDoor
namespace Go.Proofs.YtdlfbhbgemoelaaGreatDoor
open Go.RowKit Go.Shelf Go.Sort Go.Maps

def emptyH : HouseC := ⟨[], fun _ => ⟨0, 0, 0, .slice none 0 0⟩, [], 1⟩
/-- a new house -/
def NewS (w : World) (e : Ending) (w' : World) : Prop := ∃ H mb mw B, e = .returned (.pointer (some ⟨H, 0, none⟩)) ∧ HouseS w.heap.size w' H mb mw (makeC emptyH inboxB B) ∧ Below w.heap.size w w'
theorem house_empty (w : World) {H : Nat} (hH : H = w.heap.size + 2) : HouseS w.heap.size (((w.alloc (.map #[] 0)).alloc (.map #[] 0)).alloc (.cells #[.map (some w.heap.size), .map (some (w.heap.size + 1)), .int .i64 1] 61)) H w.heap.size (w.heap.size + 1) emptyH := by
  subst hH
  have s1 := alloc_size w (.map #[] 0)
  have s2 := alloc_size (w.alloc (.map #[] 0)) (.map #[] 0)
  have hn := World.heap_alloc_new ((w.alloc (.map #[] 0)).alloc (.map #[] 0)) (.cells #[.map (some w.heap.size), .map (some (w.heap.size + 1)), .int .i64 1] 61)
  rw [s2, s1] at hn
  refine { loH := by omega, lob := Nat.le_refl _, low := by omega, cells := hn, boxes := ?_, wants := ?_, ne := by omega, box := fun x hx => (by cases hx), inj := fun x hx => (by cases hx), lenL := fun x hx => (by cases hx), lenW := fun x hx => (by cases hx), slc := fun x hx => (by cases hx) }
  · exact (pm_made w _).below (((Below.refl _ _).alloc (Nat.le_refl _) _).alloc (by omega) _)
  · have := wm_made (w.alloc (.map #[] 0))
    rw [s1] at this
    exact this.below ((Below.refl _ _).alloc (Nat.le_refl _) _)
theorem house_bound {w w' : World} {N H mb : Nat} (hk : Kept (fun k => k = H ∨ k = mb) w w') (hN : N ≤ w.heap.size) (h1 : N ≤ H) (h2 : N ≤ mb) : Below N w w' := hk.below hN (fun k e => e.elim (fun e => e ▸ h1) (fun e => e ▸ h2))
set_option maxRecDepth 100000 in
set_option maxHeartbeats 2000000 in
theorem hnew_any (w : World) : Calls Tryz.prog 6 #[] w (NewS w) := by
  have hmm := @run_makeMap Tryz.prog
  have hE := house_empty w rfl
  have cM := hmake_any w.heap.size (w.heap.size + 2) w.heap.size (w.heap.size + 1) emptyH inboxB _ hE (by simp; omega) (by decide) (by decide) (by decide) (by decide) (by decide)
  have hB := (((Below.refl w.heap.size w).alloc (Nat.le_refl _) (.map #[] 0)).alloc (by simp) (.map #[] 0)).alloc (by simp; omega) (.cells #[.map (some w.heap.size), .map (some (w.heap.size + 1)), .int .i64 1] 61)
  have hl : inboxB.toArray = #[73, 78, 66, 79, 88] := rfl
  rw [hl] at cM
  clear hl hE
  go_enter Tryz.func6, Tryz.ntmps6
  go_wp2_with (go_at_call 23; ((with_reducible refine cM.mono ?_); rintro e w1 ⟨rfl, B, hB1, hS1, hK1⟩))
  go_ret
  exact ⟨_, _, _, B, rfl, hS1, hB.trans (house_bound hK1 hB.size (by omega) (Nat.le_refl _))⟩
end Go.Proofs.YtdlfbhbgemoelaaGreatDoor
namespace Go.Proofs.YtdlfbhbgemoelaaGreatDoor
open Go.RowKit Go.Shelf Go.Sort Go.Maps

/-- a row of texts stays while a house is written -/
theorem row_house {N : Nat} {w w' : World} {H mb mw : Nat} {h : HouseC} {S : Nat → Prop} (hS : HouseS N w H mb mw h) (hk : Kept S w w') (hSS : ∀ k, S k → k = H ∨ k = mb ∨ k = mw ∨ ∃ x ∈ h.L, k = (h.box x).blk) {B n : Nat} {v : Value} {xs : List Value} (hr : w.ownsRow B 9 1 v n xs) : w'.ownsRow B 9 1 v n xs := by
  refine owns_same hr ?_
  rintro k o hko ⟨c, fz, rfl⟩
  refine hk.obj hko fun e => ?_
  obtain ⟨es, cl, hb⟩ := hS.boxes.obj
  obtain ⟨es', cl', hw⟩ := hS.wants.obj
  rcases hSS k e with rfl | rfl | rfl | ⟨x, hx, rfl⟩
  · rw [hS.cells] at hko; cases hko
  · rw [hb] at hko; cases hko
  · rw [hw] at hko; cases hko
  · rw [(hS.box x hx).2] at hko; cases hko
/-- what Create says, and leaves -/
def CreatedS (N : Nat) (w : World) (H mb mw : Nat) (h : HouseC) (r : Nat ⊕ List Bs) (e : Ending) (w' : World) : Prop := match r with
  | .inl m => e = .returned (eno m) ∧ Below w.heap.size w w'
  | .inr l => e = .returned .nilIface ∧ ∃ bs : List Nat, l.length = bs.length ∧ HouseS N w' H mb mw (makeAll h l bs) ∧ Kept (fun k => k = H ∨ k = mb) w w' ∧ ∀ b ∈ bs, w.heap.size ≤ b
set_option maxRecDepth 100000 in
set_option maxHeartbeats 4000000 in
theorem hcreate_bad (N H mb mw : Nat) (h : HouseC) (s : Bs) (m : Nat) (w : World) (hS : HouseS N w H mb mw h) (hs : s.length ≤ 1000000) (hm : h.L.length ≤ 100000) (hG : HG w) (hr : hcreateF h.L s = .inl m) :
    Calls Tryz.prog 17 #[.pointer (some ⟨H, 0, none⟩), .string ⟨s.toArray⟩] w fun e w' => e = .returned (eno m) ∧ Below w.heap.size w w' := by
  have cN := hname_any s w hs hG
  unfold hcreateF at hr
  cases hn : hnameF s with
  | none =>
    rw [hn] at cN hr
    cases hr
    have cN : Calls Tryz.prog 8 #[.string ⟨s.toArray⟩] w fun e w' => e = .returned (.tuple #[.string ⟨#[]⟩, .iface 55 (.int .i64 1)]) ∧ Below w.heap.size w w' := cN
    clear hn hS
    go_enter Tryz.func17, Tryz.ntmps17
    go_wp2_with (go_at_call 8; ((with_reducible refine cN.mono ?_); rintro e w1 ⟨rfl, hb1⟩))
    go_ret
    exact ⟨rfl, hb1⟩
  | some n =>
    rw [hn] at cN hr
    have cN : Calls Tryz.prog 8 #[.string ⟨s.toArray⟩] w fun e w' => e = .returned (.tuple #[.string ⟨n.toArray⟩, .nilIface]) ∧ Below w.heap.size w w' := cN
    have hl := (hnameF_len hn).1
    have HS := Lib.hid hS
    clear hn hS
    replace hr : (if n ∈ h.L then Sum.inl 9 else if 30 < h.L.length + (haboveF h.L n).length + 1 then .inl 12 else .inr (haboveF h.L n ++ [n])) = (Sum.inl m : Nat ⊕ List Bs) := hr
    by_cases hmem : n ∈ h.L
    · rw [if_pos hmem] at hr
      cases hr
      have cL : ∀ W, Below w.heap.size w W → (Instr.lookup 58 (.map (some mb)) (.string ⟨n.toArray⟩) false).run Tryz.prog W = .ok (.pointer (some ⟨(h.box n).blk, 0, none⟩)) W ∧ W.cell? ⟨H, 0, none⟩ = some (.map (some mb)) := fun W hW => ⟨pm_look_yes (HS.out.boxes.below hW) (by omega) hmem, (three_cells (HS.out.below hW).cells).1⟩
      clear hmem
      go_enter Tryz.func17, Tryz.ntmps17
      go_wp2_with (go_at_call 8; ((with_reducible refine cN.mono ?_); rintro e w1 ⟨rfl, hb1⟩; obtain ⟨hr, hc⟩ := cL _ hb1))
      go_ret
      exact ⟨rfl, hb1⟩
    · rw [if_neg hmem] at hr
      by_cases hbig : 30 < h.L.length + (haboveF h.L n).length + 1
      · rw [if_pos hbig] at hr
        cases hr
        have cL : ∀ W, Below w.heap.size w W → (Instr.lookup 58 (.map (some mb)) (.string ⟨n.toArray⟩) false).run Tryz.prog W = .ok (.pointer none) W ∧ W.cell? ⟨H, 0, none⟩ = some (.map (some mb)) ∧ Hid (PM W mb h.L (fun x => (h.box x).blk)) := fun W hW => ⟨pm_look_no (HS.out.boxes.below hW) (by omega) hmem, (three_cells (HS.out.below hW).cells).1, HS.out.boxes.below hW⟩
        have cA := fun W (hW : Below w.heap.size w W) => habove_any N H mb mw h n W (HS.out.below hW) (by omega)
        have hal : (haboveF h.L n).length ≤ 60 := Nat.le_trans (above_len h.L n n.length) hl
        have hbz : (30 : Int) < (h.L.length : Int) + ((haboveF h.L n).length : Int) + 1 := by omega
        have hbn : ¬ ((h.L.length : Int) + ((haboveF h.L n).length : Int) + 1 ≤ 30) := by omega
        generalize haboveF h.L n = A at cA hal hbz hbn
        clear hmem hbig
        go_enter Tryz.func17, Tryz.ntmps17
        go_wp2_with (first
          | (go_at_call 8; ((with_reducible refine cN.mono ?_); rintro e w1 ⟨rfl, hb1⟩; obtain ⟨hr, hc, -⟩ := cL _ hb1))
          | (go_at_call 37; ((with_reducible refine (cA _ hb1).mono ?_); rintro e w2 ⟨v, rfl, hrow, hb2⟩; have hb2 := hb1.trans (hb2.mono hb1.size); obtain ⟨hr2, hc2, hP2⟩ := cL _ hb2; obtain ⟨ao, cap, rfl⟩ := owns_val hrow; have HROW := Lib.hid hrow; clear hrow))
          | (at_len; refine wpList_len_pm _ rfl _ rfl mb h.L _ rfl hP2.out ?_))
        go_ret
        exact ⟨rfl, hb2⟩
      · rw [if_neg hbig] at hr
        cases hr
theorem fresh_at {h : HouseC} {l : List Bs} {bs : List Nat} {k : Nat} {x : Bs} (hf : l.Nodup ∧ ∀ y ∈ l, y ∉ h.L) (hk : l[k]? = some x) (hb : (l.take k).length = bs.length) : x ∉ (makeAll h (l.take k) bs).L := by
  rw [(makeAll_L h _ bs hb).1, mem_insAll]
  exact fun e => e.elim (hf.2 x (List.mem_of_getElem? hk)) (nodup_at hf.1 hk)
set_option maxRecDepth 100000 in
set_option maxHeartbeats 8000000 in
theorem hcreate_good (N H mb mw : Nat) (h : HouseC) (s : Bs) (l : List Bs) (w : World) (hS : HouseS N w H mb mw h) (hN : N ≤ w.heap.size) (hs : s.length ≤ 1000000) (hG : HG w) (h0 : 0 ≤ h.next) (h1 : h.next ≤ 3000000000) (hr : hcreateF h.L s = .inr l) :
    Calls Tryz.prog 17 #[.pointer (some ⟨H, 0, none⟩), .string ⟨s.toArray⟩] w (CreatedS N w H mb mw h (.inr l)) := by
  have cN := hname_any s w hs hG
  unfold hcreateF at hr
  cases hn : hnameF s with
  | none => rw [hn] at hr; cases hr
  | some n =>
    rw [hn] at cN hr
    have cN : Calls Tryz.prog 8 #[.string ⟨s.toArray⟩] w fun e w' => e = .returned (.tuple #[.string ⟨n.toArray⟩, .nilIface]) ∧ Below w.heap.size w w' := cN
    have hl := (hnameF_len hn).1
    have HS := Lib.hid hS
    replace hr : (if n ∈ h.L then Sum.inl 9 else if 30 < h.L.length + (haboveF h.L n).length + 1 then .inl 12 else .inr (haboveF h.L n ++ [n])) = (Sum.inr l : Nat ⊕ List Bs) := hr
    by_cases hmem : n ∈ h.L
    · rw [if_pos hmem] at hr; cases hr
    rw [if_neg hmem] at hr
    by_cases hbig : 30 < h.L.length + (haboveF h.L n).length + 1
    · rw [if_pos hbig] at hr; cases hr
    rw [if_neg hbig] at hr
    obtain rfl : haboveF h.L n ++ [n] = l := by injection hr
    have hfr := made_fresh hmem
    have cL : ∀ W, Below w.heap.size w W → (Instr.lookup 58 (.map (some mb)) (.string ⟨n.toArray⟩) false).run Tryz.prog W = .ok (.pointer none) W ∧ W.cell? ⟨H, 0, none⟩ = some (.map (some mb)) ∧ Hid (PM W mb h.L (fun x => (h.box x).blk)) := fun W hW => ⟨pm_look_no (HS.out.boxes.below hW) (by omega) hmem, (three_cells (HS.out.below hW).cells).1, HS.out.boxes.below hW⟩
    have cA := fun W (hW : Below w.heap.size w W) => habove_any N H mb mw h n W (HS.out.below hW) (by omega)
    have hbz : ¬ ((30 : Int) < (h.L.length : Int) + ((haboveF h.L n).length : Int) + 1) := by omega
    have hbn : (h.L.length : Int) + ((haboveF h.L n).length : Int) + 1 ≤ 30 := by omega
    have hLl : h.L.length ≤ 30 := by omega
    have hlt := hS.lt
    have hlo := hS.loH
    have hlob := hS.lob
    have hso := hS.boxes.sorts
    generalize haboveF h.L n = A at cA hbz hbn hfr
    have hAl : A.length ≤ 30 := by omega
    clear hmem hbig hr hn hS
    obtain ⟨l, hle⟩ : ∃ l, A ++ [n] = l := ⟨_, rfl⟩
    have hll : l.length = A.length + 1 := by rw [← hle]; simp
    have HFR : Hid ((l.Nodup ∧ ∀ y ∈ l, y ∉ h.L) ∧ ∀ y ∈ l, y.length ≤ 60) := by
      rw [hle] at hfr
      exact ⟨⟨hfr.1, fun y hy => (hfr.2 y hy).1⟩, fun y hy => Nat.le_trans (hfr.2 y hy).2 hl⟩
    have HLE := Lib.hid hle
    have hll2 : l.length ≤ 31 := by omega
    have HSO := Lib.hid hso
    rw [hle]
    clear hfr hle hll hso
    go_enter Tryz.func17, Tryz.ntmps17
    go_wp2_with (first
      | (go_at_call 8; ((with_reducible refine cN.mono ?_); rintro e w1 ⟨rfl, hb1⟩; obtain ⟨hr, hc, -⟩ := cL _ hb1))
      | (go_at_call 37; ((with_reducible refine (cA _ hb1).mono ?_); rintro e w2 ⟨v, rfl, hrow, hb2⟩; have hsz2 := hb1.size; have hb3 := hb1.trans (hb2.mono hb1.size); obtain ⟨hr2, hc2, hP2⟩ := cL _ hb3; have hszr := hb2.size; obtain ⟨ao, cap, rfl⟩ := owns_val hrow))
      | (at_len; refine wpList_len_pm _ rfl _ rfl mb h.L _ rfl hP2.out ?_)
      | (at_builtin; go_must (refine wpList_app1 rfl _ _ 38 rfl 9 Tryz.underlying38 str_info rfl w1.heap.size _ _ _ _ rfl hrow _ rfl rfl ?hn (by decide) hszr ?_)))
    case hn => omega
    intro v' w3 o3 g3 hv3
    have hb4 : Below w1.heap.size w1 w3 := below_app hb2 hb2.size hrow g3
    obtain ⟨gb, cap', rfl⟩ := owns_form o3 (by omega)
    obtain ⟨m, hm⟩ : ∃ m, A.length + 1 = m := ⟨_, rfl⟩
    have hlm : l.length = m := by rw [← hm, ← HLE.out]; simp
    have o4 : w3.ownsRow w1.heap.size 9 1 (.slice (some ⟨gb, 0, none⟩) m cap') m (l.map encStr) := by
      rw [← HLE.out, List.map_append, ← hm]; exact o3
    rw [hm]
    have hb5 : Below w.heap.size w w3 := hb1.trans (hb4.mono hb1.size)
    have HS5 : Hid (HouseS N w3 H mb mw h) := Lib.hid (HS.out.below hb5)
    have HLM := Lib.hid hlm
    have O4 := Lib.hid o4
    have hml : m ≤ 31 := by omega
    clear o3 o4 g3 hv3 hrow hr2 hc2 hP2 hr hc hm hlm
    go_wp2_with fail
    go_loopg [45] m (fun g s45 wr => ∃ (k : Nat) (bs : List Nat), k + g = m ∧ s45 = .int .i64 (k : Int) ∧ Hid (k = bs.length) ∧ Hid (HouseS N wr H mb mw (makeAll h (l.take k) bs)) ∧ Hid (Kept (fun j => j = H ∨ j = mb) w wr) ∧ Hid (∀ b ∈ bs, w.heap.size ≤ b) ∧ Hid (wr.ownsRow w1.heap.size 9 1 (.slice (some ⟨gb, 0, none⟩) m cap') m (l.map encStr)))
    case atStart => exact ⟨0, [], by omega, rfl, Lib.hid rfl, HS5, Lib.hid (kept_below hb5), Lib.hid (fun b hb => (by cases hb)), O4⟩
    case round =>
      clear HS5 O4 hb5 hb4
      obtain ⟨k, bs, hk, rfl, HB, HH, HK, HF, HO⟩ := hrel
      by_cases hlt : k < m
      · obtain ⟨g', rfl⟩ : ∃ g', gk = g' + 1 := ⟨gk - 1, by omega⟩
        obtain ⟨x, hx⟩ : ∃ x, l[k]? = some x := ⟨l[k]'(by rw [HLM.out]; exact hlt), List.getElem?_eq_getElem _⟩
        have htl : (l.take k).length = bs.length := by rw [List.length_take, HLM.out, ← HB.out]; omega
        have hML := makeAll_L h (l.take k) bs htl
        have hlen : (makeAll h (l.take k) bs).L.length ≤ 1000 := by
          rw [hML.1, insAll_len HSO.out ((List.take_sublist k l).nodup HFR.out.1.1) (fun y hy => HFR.out.1.2 y (List.mem_of_mem_take hy)), List.length_take]
          omega
        have hnx : (makeAll h (l.take k) bs).next = h.next + (k : Int) := by rw [hML.2.2, htl, ← HB.out]
        have cM := hmake_any N H mb mw (makeAll h (l.take k) bs) x wr HH.out (Nat.le_trans hN HK.out.size) (fresh_at HFR.out.1 hx htl) (HFR.out.2 x (List.mem_of_getElem? hx)) hlen (by rw [hnx]; omega) (by rw [hnx]; omega)
        have hstep : ∀ B, makeC (makeAll h (l.take k) bs) x B = makeAll h (l.take (k + 1)) (bs ++ [B]) := fun B => by
          rw [List.take_add_one, hx]; exact (makeAll_snoc h _ bs x B htl).symm
        have hcx : wr.cell? ⟨gb, k, none⟩ = some (.string ⟨x.toArray⟩) := owns_cell HO.out (by rw [List.getElem?_map, hx]; rfl)
        have HST := Lib.hid hstep
        have hkz : (k : Int) < (m : Int) := by omega
        clear hx htl hML hlen hnx hstep
        go_wp2_with (go_at_call 23; ((with_reducible refine cM.mono ?_); rintro e w5 ⟨rfl, B, hB5, hS5, hK5⟩))
        have o5 := row_house HH.out hK5 (fun j e => e.elim Or.inl (fun e => Or.inr (Or.inl e))) HO.out
        rw [HST.out] at hS5
        go_roundg g'
        case measure => omega
        case rel => exact ⟨k + 1, bs ++ [B], by omega, by go_num, Lib.hid (by rw [List.length_append, ← HB.out]; rfl), Lib.hid hS5, Lib.hid (HK.out.trans (hK5.mono (fun _ _ e => e))), Lib.hid (fun b hb => (List.mem_append.1 hb).elim (HF.out b) (fun e => by rw [List.mem_singleton] at e; rw [e]; exact Nat.le_trans HK.out.size hB5)), Lib.hid o5⟩
      · obtain rfl : k = m := by omega
        have hfin : HouseS N wr H mb mw (makeAll h l bs) := by
          have := HH.out
          rwa [List.take_of_length_le (by rw [HLM.out]; exact Nat.le_refl _)] at this
        go_wp2_with fail
        go_ret
        exact ⟨rfl, bs, by rw [HLM.out, HB.out], hfin, HK.out, HF.out⟩
end Go.Proofs.YtdlfbhbgemoelaaGreatDoor
