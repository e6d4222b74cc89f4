/- The walk over a house's Rename of INBOX, and where it is refused at once. Conditions: utf8's two tables and bytealg.MaxLen lie as the program's text lays them. -/
import Derived.Test.YtdlfbhbgemoelaaGreatDoorHouI
import Derived.Test.YtdlfbhbgemoelaaGreatDoorPHouse6
import Derived.BigRegion
import Derived.RegionTactic
namespace Go.Proofs.YtdlfbhbgemoelaaGreatDoor
open Go.RowKit Go.Shelf Go.Sort Go.Maps
set_option linter.unusedSimpArgs false

set_option maxRecDepth 100000 in
set_option maxHeartbeats 4000000 in
theorem hrename_get (N H mb mw : Nat) (h : HouseC) (a b : Bs) (k : Nat) (w : World) (hS : HouseS N w H mb mw h) (ha : a.length ≤ 1000000) (hG : HG w) (hg : hgetF h.L a = .inl k) :
    Calls Tryz.prog 12 #[.pointer (some ⟨H, 0, none⟩), .string ⟨a.toArray⟩, .string ⟨b.toArray⟩] w fun e w' => e = .returned (.iface 55 (.int .i64 (k : Int))) ∧ Below w.heap.size w w' := by
  have cG := hget_any N H mb mw h a w hS ha hG
  rw [hg] at cG
  have cG : Calls Tryz.prog 10 #[.pointer (some ⟨H, 0, none⟩), .string ⟨a.toArray⟩] w fun e w' => e = .returned (.tuple #[.pointer none, .iface 55 (.int .i64 (k : Int))]) ∧ Below w.heap.size w w' := cG
  clear hg hS
  go_enter Tryz.func12, Tryz.ntmps12
  go_wp2_with (go_at_call 10; ((with_reducible refine cG.mono ?_); rintro e w1 ⟨rfl, hb1⟩))
  go_ret
  exact ⟨rfl, hb1⟩
set_option maxRecDepth 100000 in
set_option maxHeartbeats 4000000 in
theorem hrename_to (N H mb mw : Nat) (h : HouseC) (a b n : Bs) (w : World) (hS : HouseS N w H mb mw h) (ha : a.length ≤ 1000000) (hb : b.length ≤ 1000000) (hG : HG w) (hg : hgetF h.L a = .inr n) (hn2 : hnameF b = none) :
    Calls Tryz.prog 12 #[.pointer (some ⟨H, 0, none⟩), .string ⟨a.toArray⟩, .string ⟨b.toArray⟩] w fun e w' => e = .returned (.iface 55 (.int .i64 1)) ∧ Below w.heap.size w w' := by
  have cG := hget_any N H mb mw h a w hS ha hG
  rw [hg] at cG
  obtain ⟨hn, hmem⟩ := hget_inr hg
  have cG : Calls Tryz.prog 10 #[.pointer (some ⟨H, 0, none⟩), .string ⟨a.toArray⟩] w fun e w' => e = .returned (.tuple #[.pointer (some ⟨(h.box n).blk, 0, none⟩), .nilIface]) ∧ Below w.heap.size w w' := cG
  have cN1 : ∀ W, HG W → Calls Tryz.prog 8 #[.string ⟨a.toArray⟩] W fun e w' => e = .returned (.tuple #[.string ⟨n.toArray⟩, .nilIface]) ∧ Below W.heap.size W w' := fun W hW => by
    have := hname_any a W ha hW
    rw [hn] at this
    exact this
  have cN2 : ∀ W, HG W → Calls Tryz.prog 8 #[.string ⟨b.toArray⟩] W fun e w' => e = .returned (.tuple #[.string ⟨#[]⟩, .iface 55 (.int .i64 1)]) ∧ Below W.heap.size W w' := fun W hW => by
    have := hname_any b W hb hW
    rw [hn2] at this
    exact this
  have HGW := Lib.hid hG
  clear hg hn hn2 hS hG hmem
  go_enter Tryz.func12, Tryz.ntmps12
  go_wp2_with (first
    | (go_at_call 10; ((with_reducible refine cG.mono ?_); rintro e w1 ⟨rfl, hb1⟩))
    | (go_at_call 8; ((with_reducible refine (cN1 _ (HGW.out.below hb1)).mono ?_); rintro e w2 ⟨rfl, hb2⟩; have hb2 := hb1.trans (hb2.mono hb1.size); have hb2a := hb2.alloc hb2.size (.cells #[.string ⟨n.toArray⟩] 9)))
    | (go_at_call 8; ((with_reducible refine (cN2 _ (HGW.out.below hb2a)).mono ?_); rintro e w3 ⟨rfl, hb3⟩; have hb3 := hb2a.trans (hb3.mono hb2a.size))))
  go_ret
  exact ⟨rfl, hb3.alloc hb3.size _⟩
/-- INBOX's letters go to another box -/
def inboxC (h : HouseC) (m : Bs) : HouseC := { h with box := updB (updB h.box m ⟨(h.box m).blk, (h.box m).valid, (h.box inboxB).next, (h.box inboxB).lv⟩) inboxB ⟨(h.box inboxB).blk, (h.box inboxB).valid, (h.box inboxB).next, .slice none 0 0⟩ }
/-- what Rename of INBOX says, and leaves -/
def InboxS (N : Nat) (w : World) (H mb mw : Nat) (h : HouseC) (m : Bs) (e : Ending) (w' : World) : Prop := match hcreateF h.L m with
  | .inl k => e = .returned (eno k) ∧ Below w.heap.size w w'
  | .inr l => e = .returned .nilIface ∧ ∃ bs : List Nat, l.length = bs.length ∧ HouseS N w' H mb mw (inboxC (makeAll h l bs) m) ∧ Kept (fun k => k = H ∨ k = mb ∨ k = (h.box inboxB).blk) w w'
theorem set3_both {w : World} {U : Nat} {a b c x y : Value} {t : TypeId} (h : w.heap[U]? = some (.cells #[a, b, c] t (0, 0))) : ((w.setCell ⟨U, 1, none⟩ x).setCell ⟨U, 2, none⟩ y).heap[U]? = some (.cells #[a, x, y] t (0, 0)) := set3_2 (set3_1 h)
theorem house_inbox {N : Nat} {w : World} {H mb mw : Nat} {h : HouseC} {m : Bs} (hS : HouseS N w H mb mw h) (hm : m ∈ h.L) (hi : inboxB ∈ h.L) (hne : m ≠ inboxB) :
    HouseS N (((w.setCell ⟨(h.box m).blk, 1, none⟩ (.int .i64 (h.box inboxB).next)).setCell ⟨(h.box m).blk, 2, none⟩ (h.box inboxB).lv).setCell ⟨(h.box inboxB).blk, 2, none⟩ (.slice none 0 0)) H mb mw (inboxC h m) ∧
      Kept (fun k => k = (h.box m).blk ∨ k = (h.box inboxB).blk) w (((w.setCell ⟨(h.box m).blk, 1, none⟩ (.int .i64 (h.box inboxB).next)).setCell ⟨(h.box m).blk, 2, none⟩ (h.box inboxB).lv).setCell ⟨(h.box inboxB).blk, 2, none⟩ (.slice none 0 0)) := by
  have hbl : (h.box m).blk ≠ (h.box inboxB).blk := fun e => hne (hS.inj m hm inboxB hi e)
  have h1 := (hS.box m hm).2
  have h2 := (hS.box inboxB hi).2
  have n1 := hS.box_ne hm
  have n2 := hS.box_ne hi
  have e1 := set3_both h1 (x := .int .i64 (h.box inboxB).next) (y := (h.box inboxB).lv)
  generalize hU : (w.setCell ⟨(h.box m).blk, 1, none⟩ (.int .i64 (h.box inboxB).next)).setCell ⟨(h.box m).blk, 2, none⟩ (h.box inboxB).lv = U at e1 ⊢
  have k1 : Kept (fun k => k = (h.box m).blk) w U := by rw [← hU]; exact ((Kept.refl _ w).setB _).setB _
  have e2 : U.heap[(h.box inboxB).blk]? = _ := k1.obj h2 (fun e => hbl e.symm)
  have e3 := set3_2 e2 (u := .slice none 0 0)
  have e4 : (U.setCell ⟨(h.box inboxB).blk, 2, none⟩ (.slice none 0 0)).heap[(h.box m).blk]? = _ := setCell_same e1 hbl
  have k2 : Kept (fun k => k = (h.box m).blk ∨ k = (h.box inboxB).blk) w (U.setCell ⟨(h.box inboxB).blk, 2, none⟩ (.slice none 0 0)) := (k1.mono (fun _ _ e => Or.inl e)).trans (Kept.set (S := fun k => k = (h.box m).blk ∨ k = (h.box inboxB).blk) (Kept.refl _ U) (p := ⟨(h.box inboxB).blk, 2, none⟩) (fun _ => Or.inr rfl) _)
  generalize U.setCell ⟨(h.box inboxB).blk, 2, none⟩ (.slice none 0 0) = V at e3 e4 k2 ⊢
  have hb : ∀ x, ((inboxC h m).box x).blk = (h.box x).blk ∧ ((inboxC h m).box x).valid = (h.box x).valid := fun x => by
    show (updB _ _ _ x).blk = _ ∧ (updB _ _ _ x).valid = _
    unfold updB
    by_cases c1 : x = inboxB
    · rw [if_pos c1, c1]; exact ⟨rfl, rfl⟩
    · rw [if_neg c1]
      by_cases c2 : x = m
      · rw [if_pos c2, c2]; exact ⟨rfl, rfl⟩
      · rw [if_neg c2]; exact ⟨rfl, rfl⟩
  have hbI : (inboxC h m).box inboxB = ⟨(h.box inboxB).blk, (h.box inboxB).valid, (h.box inboxB).next, .slice none 0 0⟩ := by
    simp [inboxC, updB]
  have hbM : (inboxC h m).box m = ⟨(h.box m).blk, (h.box m).valid, (h.box inboxB).next, (h.box inboxB).lv⟩ := by
    simp [inboxC, updB, hne]
  have hbO : ∀ x, x ≠ inboxB → x ≠ m → (inboxC h m).box x = h.box x := fun x a b => by
    simp [inboxC, updB, a, b]
  refine ⟨{ hS with cells := k2.obj hS.cells (fun e => e.elim (fun e => n1.1 e.symm) (fun e => n2.1 e.symm)), boxes := (hS.boxes.kept k2 (fun e => e.elim (fun e => n1.2.1 e.symm) (fun e => n2.2.1 e.symm))).congr (fun x _ => (hb x).1), wants := hS.wants.kept k2 (fun e => e.elim (fun e => n1.2.2.1 e.symm) (fun e => n2.2.2.1 e.symm)), box := fun x hx => ?_, inj := fun x hx y hy e => hS.inj x hx y hy (by rw [← (hb x).1, ← (hb y).1]; exact e), slc := fun x hx => ?_ }, k2⟩
  · by_cases c1 : x = inboxB
    · subst c1
      rw [hbI]
      exact ⟨(hS.box _ hi).1, e3⟩
    · by_cases c2 : x = m
      · subst c2
        rw [hbM]
        exact ⟨(hS.box _ hm).1, e4⟩
      · rw [hbO x c1 c2]
        exact ⟨(hS.box x hx).1, k2.obj (hS.box x hx).2 (fun e => e.elim (fun e => c2 (hS.inj x hx m hm e)) (fun e => c1 (hS.inj x hx _ hi e)))⟩
  · by_cases c1 : x = inboxB
    · subst c1; rw [hbI]; exact ⟨_, _, _, rfl⟩
    · by_cases c2 : x = m
      · subst c2; rw [hbM]; exact hS.slc _ hi
      · rw [hbO x c1 c2]; exact hS.slc x hx
set_option linter.constructorNameAsVariable false in
set_option maxRecDepth 100000 in
set_option maxHeartbeats 16000000 in
theorem hrename_inbox (N H mb mw : Nat) (h : HouseC) (a b n m : Bs) (w : World) (hS : HouseS N w H mb mw h) (hN : N ≤ w.heap.size) (ha : a.length ≤ 1000000) (hb : b.length ≤ 1000000) (hm : h.L.length ≤ 1000) (hG : HG w) (h0 : 0 ≤ h.next) (h1 : h.next ≤ 3000000000) (hg : hgetF h.L a = .inr n) (hn2 : hnameF b = some m) (hni : n = inboxB) :
    Calls Tryz.prog 12 #[.pointer (some ⟨H, 0, none⟩), .string ⟨a.toArray⟩, .string ⟨b.toArray⟩] w (InboxS N w H mb mw h m) := by
  obtain rfl : n = [73, 78, 66, 79, 88] := hni
  have cG := hget_any N H mb mw h a w hS ha hG
  rw [hg] at cG
  obtain ⟨hn, hmem⟩ := hget_inr hg
  have hl := (hnameF_len hn).1
  have hlm := (hnameF_len hn2).1
  have cG : Calls Tryz.prog 10 #[.pointer (some ⟨H, 0, none⟩), .string ⟨a.toArray⟩] w fun e w' => e = .returned (.tuple #[.pointer (some ⟨(h.box inboxB).blk, 0, none⟩), .nilIface]) ∧ Below w.heap.size w w' := cG
  have cN1 : ∀ W, HG W → Calls Tryz.prog 8 #[.string ⟨a.toArray⟩] W fun e w' => e = .returned (.tuple #[.string ⟨#[73, 78, 66, 79, 88]⟩, .nilIface]) ∧ Below W.heap.size W w' := fun W hW => by
    have := hname_any a W ha hW
    rw [hn] at this
    exact this
  have cN2 : ∀ W, HG W → Calls Tryz.prog 8 #[.string ⟨b.toArray⟩] W fun e w' => e = .returned (.tuple #[.string ⟨m.toArray⟩, .nilIface]) ∧ Below W.heap.size W w' := fun W hW => by
    have := hname_any b W hb hW
    rw [hn2] at this
    exact this
  have HS := Lib.hid hS
  have HGW := Lib.hid hG
  have HMEM := Lib.hid hmem
  have tm := text_size m
  have HAG : Hid (hnameF m = some m) := Lib.hid (name_again hn2)
  clear hg hn hn2 hS hG hmem
  go_enter Tryz.func12, Tryz.ntmps12
  go_upto_block 0 with (first
    | (go_at_call 10; ((with_reducible refine cG.mono ?_); rintro e w1 ⟨rfl, hb1⟩))
    | (go_at_call 8; ((with_reducible refine (cN1 _ (HGW.out.below hb1)).mono ?_); rintro e w2 ⟨rfl, hb2⟩; have hb2 := hb1.trans (hb2.mono hb1.size); have hb2a := hb2.alloc hb2.size (.cells #[.string ⟨#[73, 78, 66, 79, 88]⟩] 9); have x2 : (w2.alloc (.cells #[.string ⟨#[73, 78, 66, 79, 88]⟩] 9)).cell? ⟨w2.heap.size, 0, none⟩ = some (.string ⟨#[73, 78, 66, 79, 88]⟩) := by rw [Lib.cell_of_heap (World.heap_alloc_new w2 _)]; rfl))
    | (go_at_call 8; ((with_reducible refine (cN2 _ (HGW.out.below hb2a)).mono ?_); rintro e w3 ⟨rfl, hb3⟩; have x3 := below_cell hb3 x2; have s3 := hb3.size; have hb3 := hb2a.trans (hb3.mono hb2a.size))))
  have y4 := hb3.alloc hb3.size (.cells #[.string ⟨m.toArray⟩] 9)
  have hx4 : (w3.alloc (.cells #[.string ⟨m.toArray⟩] 9)).cell? ⟨w2.heap.size, 0, none⟩ = some (.string ⟨#[73, 78, 66, 79, 88]⟩) := below_cell ((Below.refl _ _).alloc (Nat.le_refl _) _) x3
  have hy4 : (w3.alloc (.cells #[.string ⟨m.toArray⟩] 9)).cell? ⟨w3.heap.size, 0, none⟩ = some (.string ⟨m.toArray⟩) := by rw [Lib.cell_of_heap (World.heap_alloc_new w3 _)]; rfl
  have hX0 := hb2.size
  have hY0 := hb3.size
  have hsz4 := alloc_size w3 (.cells #[.string ⟨m.toArray⟩] 9)
  generalize w3.alloc (.cells #[.string ⟨m.toArray⟩] 9) = w4 at y4 hx4 hy4 hsz4 ⊢
  rw [alloc_size] at s3
  obtain ⟨X, hX⟩ : ∃ X, w2.heap.size = X := ⟨_, rfl⟩
  obtain ⟨Y, hY⟩ : ∃ Y, w3.heap.size = Y := ⟨_, rfl⟩
  rw [hX] at hx4 hX0 s3 ⊢
  rw [hY] at hy4 hY0 hsz4 s3 ⊢
  have hX4 : X < w4.heap.size := by omega
  have hY4 : Y < w4.heap.size := by omega
  clear hX hY hb3 x3 x2 hb2a hb2 hb1 s3 cG cN1 cN2 hsz4
  have hc4 := (three_cells (HS.out.below y4).cells).1
  have hl4 : Hid (∀ q, PM (w4.drewN q) mb h.L (fun x => (h.box x).blk)) := Lib.hid fun q => (HS.out.below (y4.trans ((below_drewN w4 q).mono y4.size))).boxes
  have HEND : Hid (∀ k w', hcreateF h.L m = .inl k → Below w.heap.size w w' → InboxS N w H mb mw h m (.returned (.iface 55 (.int .i64 (k : Int)))) w') := Lib.hid fun k w' hk hw => by
    unfold InboxS
    rw [hk]
    exact ⟨rfl, hw⟩
  by_cases hmL : m ∈ h.L
  · have hcr : hcreateF h.L m = .inl 9 := by
      unfold hcreateF
      rw [HAG.out]
      show (if m ∈ h.L then _ else _) = _
      rw [if_pos hmL]
    have HE := Lib.hid (fun w' hw => HEND.out 9 w' hcr hw)
    have hlk : ∀ q, (Instr.lookup 58 (.map (some mb)) (.string ⟨m.toArray⟩) false).run Tryz.prog (w4.drewN q) = .ok (.pointer (some ⟨(h.box m).blk, 0, none⟩)) (w4.drewN q) := fun q => pm_look_yes (hl4.out q) (by omega) hmL
    clear hmL hcr
    go_wp2_with fail
    go_quiet (fail)
    go_wp2_with fail
    go_ret
    exact HE.out _ (y4.trans ((below_drewN w4 _).mono y4.size))
  have hlk : ∀ q, (Instr.lookup 58 (.map (some mb)) (.string ⟨m.toArray⟩) false).run Tryz.prog (w4.drewN q) = .ok (.pointer none) (w4.drewN q) := fun q => pm_look_no (hl4.out q) (by omega) hmL
  have HML := Lib.hid hmL
  clear hmL
  go_wp2_with fail
  go_quiet (fail)
  have y5 : Below w.heap.size w (w4.drewN nq) := y4.trans ((below_drewN w4 _).mono y4.size)
  have hx5 : (w4.drewN nq).cell? ⟨X, 0, none⟩ = some (.string ⟨#[73, 78, 66, 79, 88]⟩) := hx4
  have hy5 : (w4.drewN nq).cell? ⟨Y, 0, none⟩ = some (.string ⟨m.toArray⟩) := hy4
  have hX5 : X < (w4.drewN nq).heap.size := hX4
  have hY5 : Y < (w4.drewN nq).heap.size := hY4
  generalize w4.drewN nq = w5 at y5 hx5 hy5 hX5 hY5 ⊢
  clear hlk hl4 hc4 hx4 hy4 y4 hX4 hY4
  have hct : (⟨#[73, 78, 66, 79, 88]⟩ : ByteArray) ++ ⟨#[47]⟩ = ⟨#[73, 78, 66, 79, 88, 47]⟩ := text_cat [73, 78, 66, 79, 88] [47]
  have cP : ∀ W, Calls Tryz.prog 13 #[.string ⟨m.toArray⟩, .string ⟨#[73, 78, 66, 79, 88, 47]⟩] W fun e w' => e = .returned (.bool (Lib.hasPrefix m [73, 78, 66, 79, 88, 47])) ∧ W = w' := fun W => (Tryz.strings_HasPrefix ⟨m.toArray⟩ ⟨#[73, 78, 66, 79, 88, 47]⟩ W).mono fun _ _ ⟨h1, h2⟩ => ⟨h1, h2.symm⟩
  generalize Lib.hasPrefix m [73, 78, 66, 79, 88, 47] = bp at cP
  have hS5 := HS.out.below y5
  have hHlt := HS.out.lt
  cases hcr : hcreateF h.L m with
  | inl k =>
    have cC := hcreate_bad N H mb mw h m k w5 hS5 (by omega) (by omega) (HGW.out.below y5) hcr
    have cC : Calls Tryz.prog 17 #[.pointer (some ⟨H, 0, none⟩), .string ⟨m.toArray⟩] w5 fun e w' => e = .returned (.iface 55 (.int .i64 (k : Int))) ∧ Below w5.heap.size w5 w' := cC
    have HE := Lib.hid (fun w' hw => HEND.out k w' hcr hw)
    clear hcr hS5
    cases bp
    all_goals
      go_wp2_with (first
        | (go_at_call 13; ((with_reducible refine (cP _).mono ?_); rintro e w6 ⟨rfl, rfl⟩))
        | (go_at_call 17; ((with_reducible refine cC.mono ?_); rintro e w6 ⟨rfl, hb6⟩)))
      go_ret
      exact HE.out _ (y5.trans (hb6.mono y5.size))
  | inr l =>
    have cC := hcreate_good N H mb mw h m l w5 hS5 (Nat.le_trans hN y5.size) (by omega) (HGW.out.below y5) h0 h1 hcr
    have hlm : m ∈ l ∧ inboxB ∉ l ∧ m ≠ inboxB := by
      have hcr2 := hcr
      unfold hcreateF at hcr2
      rw [HAG.out] at hcr2
      replace hcr2 : (if m ∈ h.L then Sum.inl 9 else if 30 < h.L.length + (haboveF h.L m).length + 1 then .inl 12 else .inr (haboveF h.L m ++ [m])) = (Sum.inr l : Nat ⊕ List Bs) := hcr2
      rw [if_neg HML.out] at hcr2
      split at hcr2
      · cases hcr2
      · obtain rfl : haboveF h.L m ++ [m] = l := by injection hcr2
        exact ⟨by simp, fun e => ((made_fresh HML.out).2 _ e).1 HMEM.out, fun e => HML.out (by rw [e]; exact HMEM.out)⟩
    have HLM := Lib.hid hlm
    have HCR := Lib.hid hcr
    clear hcr hS5 hlm
    cases bp
    all_goals
      go_upto_region 16 with (first
        | (go_at_call 13; ((with_reducible refine (cP _).mono ?_); rintro e w6 ⟨rfl, rfl⟩))
        | (go_at_call 17; ((with_reducible refine cC.mono ?_); rintro e w6 ⟨rfl, bs, hbs, hS6, hK6, hF6⟩)))
      have HBN : Hid (((makeAll h l bs).box m).blk ∈ bs) := Lib.hid (makeAll_new h l bs m HLM.out.1 hbs)
      have HOLD : Hid ((makeAll h l bs).box inboxB = h.box inboxB) := Lib.hid (makeAll_old h l bs inboxB HLM.out.2.1)
      have HIN : Hid (m ∈ (makeAll h l bs).L ∧ inboxB ∈ (makeAll h l bs).L) := Lib.hid (by rw [(makeAll_L h l bs hbs).1, mem_insAll, mem_insAll]; exact ⟨Or.inr HLM.out.1, Or.inl HMEM.out⟩)
      have HFIN : Hid (∀ w', HouseS N w' H mb mw (inboxC (makeAll h l bs) m) → Kept (fun k => k = H ∨ k = mb ∨ k = (h.box inboxB).blk) w w' → InboxS N w H mb mw h m (.returned .nilIface) w') := Lib.hid fun w' a1 a2 => by
        unfold InboxS
        rw [HCR.out]
        exact ⟨rfl, bs, hbs, a1, a2⟩
      obtain ⟨hq, hhq⟩ : ∃ hq, makeAll h l bs = hq := ⟨_, rfl⟩
      rw [hhq] at HBN HOLD HIN HFIN hS6
      obtain ⟨O, hO⟩ : ∃ O, (h.box inboxB).blk = O := ⟨_, rfl⟩
      have hO2 : (hq.box inboxB).blk = O := by rw [HOLD.out, hO]
      obtain ⟨Bm, hBm⟩ : ∃ Bm, (hq.box m).blk = Bm := ⟨_, rfl⟩
      rw [hO] at HFIN ⊢
      have hBmge : w5.heap.size ≤ Bm := by rw [← hBm]; exact hF6 _ HBN.out
      have hOlt : O < w.heap.size := by rw [← hO]; exact (HS.out.box_ne HMEM.out).2.2.2
      have hOne : O ≠ H ∧ O ≠ mb := by rw [← hO]; exact ⟨(HS.out.box_ne HMEM.out).1, (HS.out.box_ne HMEM.out).2.1⟩
      have hoc := (hS6.box inboxB HIN.out.2).2
      have hbc := (hS6.box m HIN.out.1).2
      rw [hO2] at hoc
      rw [hBm] at hbc
      have hy6 : w6.cell? ⟨Y, 0, none⟩ = some (.string ⟨m.toArray⟩) := (World.cell?_of_block (w := w5) (hK6.block Y hY5 (fun e => by rcases e with e | e <;> omega))).trans hy5
      have hc6 := (three_cells hS6.cells).1
      have hlk : ∀ q, (Instr.lookup 58 (.map (some mb)) (.string ⟨m.toArray⟩) false).run Tryz.prog (w6.drewN q) = .ok (.pointer (some ⟨Bm, 0, none⟩)) (w6.drewN q) := fun q => by
        have := pm_look_yes (hS6.below (below_drewN w6 q)).boxes (s := m) (by omega) HIN.out.1
        rw [hBm] at this
        exact this
      have hO5 : w.heap.size ≤ w5.heap.size := y5.size
      have HS6 := Lib.hid hS6
      have HK6 := Lib.hid hK6
      have HO2 := Lib.hid hO2
      have HBM := Lib.hid hBm
      have HOO := Lib.hid hO
      have HOC := Lib.hid hoc
      have HBC := Lib.hid hbc
      clear hbs hS6 hK6 hF6 hhq hO hO2 hBm hoc hbc
      go_quiet (fail)
      have hS7 : HouseS N (w6.drewN nq) H mb mw hq := HS6.out.below (below_drewN w6 nq)
      have hK7 : Kept (fun k => k = H ∨ k = mb) w5 (w6.drewN nq) := HK6.out.next ((below_drewN w6 nq).mono HK6.out.size)
      have ho7 : (w6.drewN nq).heap[O]? = some (.cells #[.int .i64 (hq.box inboxB).valid, .int .i64 (hq.box inboxB).next, (hq.box inboxB).lv] 48 (0, 0)) := HOC.out
      have hb7 : (w6.drewN nq).heap[Bm]? = some (.cells #[.int .i64 (hq.box m).valid, .int .i64 (hq.box m).next, (hq.box m).lv] 48 (0, 0)) := HBC.out
      generalize w6.drewN nq = w7 at hS7 hK7 ho7 hb7 ⊢
      have HS7 := Lib.hid hS7
      have HK7 := Lib.hid hK7
      clear hlk hc6 hy6 hS7 hK7
      obtain ⟨la, ln, lc, hlv⟩ := HS7.out.slc inboxB HIN.out.2
      obtain ⟨nx, hnx⟩ : ∃ nx, (hq.box inboxB).next = nx := ⟨_, rfl⟩
      rw [hlv, hnx] at ho7
      have HI7 := house_inbox (w := w7.drew) (HS7.out.below (Below.refl _ _).drew) HIN.out.1 HIN.out.2 HLM.out.2.2
      rw [HO2.out, HBM.out, hlv, hnx] at HI7
      have hKF : ∀ w', Kept (fun k => k = Bm ∨ k = O) w7.drew w' → Kept (fun k => k = H ∨ k = mb ∨ k = O) w w' := fun w' hk0 => by
        have hk : Kept (fun k => k = Bm ∨ k = O) w7 w' := (kept_below (Below.refl _ w7).drew).trans hk0
        have h57 : Kept (fun k => k = H ∨ k = mb ∨ k = O) w w7 := (kept_below y5).trans (HK7.out.mono (fun k _ e => e.elim Or.inl (fun e => Or.inr (Or.inl e))))
        exact ⟨hk.os.trans h57.os, hk.tape.trans h57.tape, hk.output.trans h57.output, Nat.le_trans h57.size hk.size, fun k hk1 hk2 => (hk.block k (Nat.lt_of_lt_of_le hk1 h57.size) (fun e => by rcases e with e | e; (omega); exact hk2 (Or.inr (Or.inr e)))).trans (h57.block k hk1 hk2)⟩
      have HEN := Lib.hid (HFIN.out _ HI7.1 (hKF _ HI7.2))
      obtain ⟨o0, o1, o2⟩ := three_cells ho7
      obtain ⟨b0, b1, b2⟩ := three_cells hb7
      have fo := Lib.frozen_of_heap ho7
      have fb := Lib.frozen_of_heap hb7
      have hOB : O ≠ Bm := by omega
      have hBO : Bm ≠ O := by omega
      clear hlv hnx HI7 hKF ho7 hb7
      go_wp2_with fail
      go_region
      all_goals
        go_wp2_with fail
        go_ret
        exact HEN.out
end Go.Proofs.YtdlfbhbgemoelaaGreatDoor
