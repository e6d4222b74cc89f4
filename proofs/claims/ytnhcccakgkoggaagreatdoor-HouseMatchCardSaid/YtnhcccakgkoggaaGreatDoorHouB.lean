/- The walks over a house's make, New, Names, Get, above. Conditions: utf8's two tables and bytealg.MaxLen lie as the program's text lays them (where a name is read). -/
import Derived.Test.YtnhcccakgkoggaaGreatDoorHouA
import Derived.Test.YtnhcccakgkoggaaGreatDoorKeys
import Derived.Deep.RegionHeld3
import Derived.IntWalk
namespace Go.Proofs.YtnhcccakgkoggaaGreatDoor
open Go.RowKit Go.Shelf Go.Sort Go.Maps

theorem kresults_noneH {P : Program} {fn : Func} (h : fn.results = #[]) (tmps : Array Value) (w : World) : (results fn tmps).run P w = .ok (.tuple #[]) w := by
  simp [results, h, go_sem]
theorem HouseS.kept {N : Nat} {w w' : World} {H mb mw : Nat} {h : HouseC} {S : Nat → Prop} (hS : HouseS N w H mb mw h) (hk : Kept S w w') (h1 : ¬ S H) (h2 : ¬ S mb) (h3 : ¬ S mw) (h4 : ∀ x ∈ h.L, ¬ S (h.box x).blk) : HouseS N w' H mb mw h :=
  { hS with cells := hk.obj hS.cells h1, boxes := hS.boxes.kept hk h2, wants := hS.wants.kept hk h3, box := fun x hx => ⟨(hS.box x hx).1, hk.obj (hS.box x hx).2 (h4 x hx)⟩ }
theorem HouseS.below {N : Nat} {w w' : World} {H mb mw : Nat} {h : HouseC} (hS : HouseS N w H mb mw h) (hb : Below w.heap.size w w') : HouseS N w' H mb mw h := hS.kept (S := fun _ => False) (kept_below hb) id id id (fun _ _ => id)
theorem HouseS.lt {N : Nat} {w : World} {H mb mw : Nat} {h : HouseC} (hS : HouseS N w H mb mw h) : H < w.heap.size ∧ mb < w.heap.size ∧ mw < w.heap.size := by
  obtain ⟨es, c, hb⟩ := hS.boxes.obj
  obtain ⟨es', c', hw⟩ := hS.wants.obj
  exact ⟨(Array.getElem?_eq_some_iff.1 hS.cells).1, (Array.getElem?_eq_some_iff.1 hb).1, (Array.getElem?_eq_some_iff.1 hw).1⟩
theorem HouseS.nes {N : Nat} {w : World} {H mb mw : Nat} {h : HouseC} (hS : HouseS N w H mb mw h) : H ≠ mb ∧ H ≠ mw := by
  obtain ⟨es, c, hb⟩ := hS.boxes.obj
  obtain ⟨es', c', hw⟩ := hS.wants.obj
  exact ⟨ne_of_obj hS.cells hb (by simp), ne_of_obj hS.cells hw (by simp)⟩
theorem HouseS.box_ne {N : Nat} {w : World} {H mb mw : Nat} {h : HouseC} (hS : HouseS N w H mb mw h) {x : Bs} (hx : x ∈ h.L) : (h.box x).blk ≠ H ∧ (h.box x).blk ≠ mb ∧ (h.box x).blk ≠ mw ∧ (h.box x).blk < w.heap.size := by
  obtain ⟨es, c, hb⟩ := hS.boxes.obj
  obtain ⟨es', c', hw⟩ := hS.wants.obj
  have h1 := (hS.box x hx).2
  exact ⟨ne_of_obj h1 hS.cells (by intro e; cases e), ne_of_obj h1 hb (by simp), ne_of_obj h1 hw (by simp), (Array.getElem?_eq_some_iff.1 h1).1⟩
def boxO (next : Int) : Obj := .cells #[.int .i64 next, .int .i64 1, .slice none 0 0] 58
theorem house_made {N : Nat} {w w1 : World} {H mb mw : Nat} {h : HouseC} {s : Bs} (hS : HouseS N w H mb mw h) (hN : N ≤ w.heap.size) (hs : s ∉ h.L) (hl : s.length ≤ 60)
    (hP : PM w1 mb (insS s h.L) (fun x => if x = s then w.heap.size else (h.box x).blk)) (hK : Kept (fun k => k = mb) (w.alloc (boxO h.next)) w1) :
    HouseS N (w1.setCell ⟨H, 2, none⟩ (.int .i64 (h.next + 1))) H mb mw (makeC h s w.heap.size) ∧ Kept (fun k => k = H ∨ k = mb) w (w1.setCell ⟨H, 2, none⟩ (.int .i64 (h.next + 1))) := by
  have hlt := hS.lt
  have hne := hS.nes
  have hka : Kept (fun k => k = mb) w w1 := ((Kept.refl _ w).alloc _).trans (hK.mono (fun _ _ e => e))
  have hk2 : Kept (fun k => k = H ∨ k = mb) w (w1.setCell ⟨H, 2, none⟩ (.int .i64 (h.next + 1))) := Kept.set (S := fun k => k = H ∨ k = mb) (hka.mono (fun _ _ e => Or.inr e)) (p := ⟨H, 2, none⟩) (fun _ => Or.inl rfl) _
  have hks : Kept (fun k => k = H) w1 (w1.setCell ⟨H, 2, none⟩ (.int .i64 (h.next + 1))) := Kept.set (S := fun k => k = H) (Kept.refl _ w1) (p := ⟨H, 2, none⟩) (fun _ => rfl) _
  have hfst : ∀ x ∈ h.L, x ≠ s := fun x hx e => hs (e ▸ hx)
  refine ⟨{ loH := hS.loH, lob := hS.lob, low := hS.low, cells := ?_, boxes := ?_, wants := ?_, ne := hS.ne, box := ?_, inj := ?_, lenL := ?_, lenW := hS.lenW }, hk2⟩
  · exact set3_2 (hka.obj hS.cells hne.1)
  · refine (hP.kept hks (fun e => hne.1 e.symm)).congr fun x _ => ?_
    show (updB h.box s _ x).blk = _
    unfold updB
    split <;> rfl
  · exact hS.wants.kept hk2 (fun e => e.elim (fun e => hne.2 e.symm) (fun e => hS.ne e.symm))
  · intro x hx
    show N ≤ (updB h.box s ⟨w.heap.size, h.next, 1, .slice none 0 0⟩ x).blk ∧ _
    have hnew : (w.alloc (boxO h.next)).heap[w.heap.size]? = some (boxO h.next) := World.heap_alloc_new _ _
    by_cases e : x = s
    · subst e
      have : updB h.box x ⟨w.heap.size, h.next, 1, .slice none 0 0⟩ x = ⟨w.heap.size, h.next, 1, .slice none 0 0⟩ := by unfold updB; rw [if_pos rfl]
      show _ ∧ (w1.setCell _ _).heap[(updB h.box x ⟨w.heap.size, h.next, 1, .slice none 0 0⟩ x).blk]? = some (.cells #[.int .i64 (updB h.box x ⟨w.heap.size, h.next, 1, .slice none 0 0⟩ x).valid, .int .i64 (updB h.box x ⟨w.heap.size, h.next, 1, .slice none 0 0⟩ x).next, (updB h.box x ⟨w.heap.size, h.next, 1, .slice none 0 0⟩ x).lv] _ _)
      rw [this]
      exact ⟨hN, hks.obj (hK.obj hnew (by show ¬ (w.heap.size = mb); omega)) (by show ¬ (w.heap.size = H); omega)⟩
    · have hxL : x ∈ h.L := (mem_insS.1 hx).resolve_left e
      have : updB h.box s ⟨w.heap.size, h.next, 1, .slice none 0 0⟩ x = h.box x := by unfold updB; rw [if_neg e]
      show _ ∧ (w1.setCell _ _).heap[(updB h.box s ⟨w.heap.size, h.next, 1, .slice none 0 0⟩ x).blk]? = some (.cells #[.int .i64 (updB h.box s ⟨w.heap.size, h.next, 1, .slice none 0 0⟩ x).valid, .int .i64 (updB h.box s ⟨w.heap.size, h.next, 1, .slice none 0 0⟩ x).next, (updB h.box s ⟨w.heap.size, h.next, 1, .slice none 0 0⟩ x).lv] _ _)
      rw [this]
      have hb := hS.box_ne hxL
      exact ⟨(hS.box x hxL).1, hk2.obj (hS.box x hxL).2 (fun e => e.elim hb.1 hb.2.1)⟩
  · intro x hx y hy hxy
    have key : ∀ z, z ∈ insS s h.L → (z = s ∧ ((makeC h s w.heap.size).box z).blk = w.heap.size) ∨ (z ∈ h.L ∧ z ≠ s ∧ ((makeC h s w.heap.size).box z).blk = (h.box z).blk ∧ (h.box z).blk < w.heap.size) := fun z hz => by
      by_cases e : z = s
      · left
        refine ⟨e, ?_⟩
        show (updB h.box s _ z).blk = _
        unfold updB
        rw [if_pos e]
      · right
        have hzL : z ∈ h.L := (mem_insS.1 hz).resolve_left e
        refine ⟨hzL, e, ?_, (hS.box_ne hzL).2.2.2⟩
        show (updB h.box s _ z).blk = _
        unfold updB
        rw [if_neg e]
    rcases key x hx with ⟨rfl, e1⟩ | ⟨h1, h2, e1, h3⟩ <;> rcases key y hy with ⟨rfl, e2⟩ | ⟨h4, h5, e2, h6⟩
    · rfl
    · omega
    · omega
    · exact hS.inj x h1 y h4 (by rw [← e1, ← e2, hxy])
  · intro x hx
    rcases mem_insS.1 hx with rfl | hx
    · exact hl
    · exact hS.lenL x hx
/-- what make leaves -/
def MadeS (N : Nat) (w : World) (H mb mw : Nat) (h : HouseC) (s : Bs) (w' : World) : Prop := ∃ B, w.heap.size ≤ B ∧ HouseS N w' H mb mw (makeC h s B) ∧ Kept (fun k => k = H ∨ k = mb) w w'
set_option maxRecDepth 100000 in
set_option maxHeartbeats 4000000 in
theorem hmake_any (N H mb mw : Nat) (h : HouseC) (s : Bs) (w : World) (hS : HouseS N w H mb mw h) (hN : N ≤ w.heap.size) (hs : s ∉ h.L) (hl : s.length ≤ 60) (hm : h.L.length ≤ 1000) (h0 : 0 ≤ h.next) (h1 : h.next ≤ 4000000000) :
    Calls Tryz.prog 21 #[.pointer (some ⟨H, 0, none⟩), .string ⟨s.toArray⟩] w fun e w' => e = .returned (.tuple #[]) ∧ MadeS N w H mb mw h s w' := by
  have hlt := hS.lt
  have hne := hS.nes
  obtain ⟨c0, c1, c2⟩ := three_cells hS.cells
  have hcl := hS.cells
  obtain ⟨nx, hnx⟩ : ∃ nx, h.next = nx := ⟨_, rfl⟩
  rw [hnx] at c2 h0 h1
  have hfin : ∀ w1, PM w1 mb (insS s h.L) (fun x => if x = s then w.heap.size else (h.box x).blk) → Kept (fun k => k = mb) (w.drew.alloc (boxO nx)) w1 → MadeS N w H mb mw h s (w1.setCell ⟨H, 2, none⟩ (.int .i64 (nx + 1))) := fun w1 hP hK => by
    subst hnx
    obtain ⟨r1, r2⟩ := house_made (w := w.drew) (hS.below (Below.refl _ _).drew) hN hs hl hP hK
    exact ⟨_, Nat.le_refl _, r1, (kept_below (Below.refl _ _).drew).trans r2⟩
  have hcellK : ∀ w1, Kept (fun k => k = mb) (w.drew.alloc (boxO nx)) w1 → w1.heap[H]? = some (.cells #[.map (some mb), .map (some mw), .int .i64 nx] 42 (0, 0)) := fun w1 hK => by
    rw [← hnx]
    exact hK.obj (alloc_at (w := w.drew) hcl) hne.1
  have hPM : PM (w.alloc (boxO nx)).drew mb h.L (fun x => (h.box x).blk) := hS.boxes.below (((Below.refl _ w).alloc (Nat.le_refl _) _).drew)
  obtain ⟨w1, hrun, hP1, hK1⟩ := pm_store_run hPM (s := s) (by omega) w.heap.size (by omega)
  have hd := hfin w1 hP1 hK1
  have hw1 := hcellK w1 hK1
  obtain ⟨d0, d1, d2⟩ := three_cells hw1
  have df := Lib.frozen_of_heap hw1
  have HD := Lib.hid hd
  have HA : Hid ((w.alloc (boxO nx)).drew.heap[H]? = some (.cells #[.map (some mb), .map (some mw), .int .i64 nx] 42 (0, 0))) := Lib.hid (hcellK _ (Kept.refl _ _))
  have cd0 : w.drew.cell? ⟨H, 0, none⟩ = some (.map (some mb)) := c0
  have cd2 : w.drew.cell? ⟨H, 2, none⟩ = some (.int .i64 nx) := c2
  have hwr : IntKind.i64.wrap (nx + 1) = nx + 1 := IntWalk.i64_in _ (by omega)
  unfold boxO at hrun HA
  clear hfin hcellK hPM hcl hS hnx c0 c1 c2 hP1 hK1 hd hw1
  go_enter Tryz.func21, Tryz.ntmps21
  go_wp2_with fail
  go_region_held3 (fun W => W.cell? ⟨H, 0, none⟩ = some (.map (some mb)) ∧ W.cell? ⟨H, 2, none⟩ = some (.int .i64 nx))
    (first | exact ⟨cd0, cd2⟩ | exact ⟨(three_cells HA.out).1, (three_cells HA.out).2.2⟩ | exact ⟨d0, d2⟩)
    (fail)
  go_wp2_with fail
  exact ⟨rfl, _, kresults_noneH rfl _ _, rfl, HD.out⟩
end Go.Proofs.YtnhcccakgkoggaaGreatDoor
