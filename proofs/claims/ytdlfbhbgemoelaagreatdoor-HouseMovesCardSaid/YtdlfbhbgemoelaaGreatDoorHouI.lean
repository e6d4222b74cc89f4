/- The walk over a house's Rename of a box that is not INBOX. Conditions: utf8's two tables and bytealg.MaxLen lie as the program's text lays them. -/
import Derived.Test.YtdlfbhbgemoelaaGreatDoorHouH
import Derived.Test.YtdlfbhbgemoelaaGreatDoorPHouse6
namespace Go.Proofs.YtdlfbhbgemoelaaGreatDoor
open Go.RowKit Go.Shelf Go.Sort Go.Maps
set_option linter.unusedSimpArgs false

theorem long_row {w : World} {B X Y : Nat} {n m : Bs} {v : Value} {l : List Bs} (hr : w.ownsRow B 9 1 v l.length (l.map encStr)) (hl : l.length ≤ 1000000) (hx : w.cell? ⟨X, 0, none⟩ = some (.string ⟨n.toArray⟩)) (hy : w.cell? ⟨Y, 0, none⟩ = some (.string ⟨m.toArray⟩)) :
    Calls Tryz.prog 38 #[v, .func (.func 39) #[] #[.pointer (some ⟨X, 0, none⟩), .pointer (some ⟨Y, 0, none⟩)]] w fun e w' => e = .returned (.bool (l.any (longQ n m))) ∧ Below w.heap.size w w' := by
  rcases hr.2 with ⟨rfl, h0⟩ | ⟨g, cap, cur, rfl, hbase, hb, h1, h2, h3, h4⟩
  · obtain rfl : l = [] := List.eq_nil_of_length_eq_zero h0
    refine (Tryz.slices_ContainsFunc_empty (α := List UInt8) none 0 _ w).mono ?_
    rintro e w' ⟨rfl, rfl⟩
    exact ⟨rfl, Below.refl _ _⟩
  · have hp : PredAt Tryz.prog 39 #[.pointer (some ⟨X, 0, none⟩), .pointer (some ⟨Y, 0, none⟩)] encStr (longQ n m) w := fun W x hW => (rename1_any n m x X Y W (below_cell hW hx) (below_cell hW hy)).mono (by rintro e w' ⟨rfl, rfl⟩; exact ⟨rfl, 0, rfl⟩)
    have := Tryz.slices_ContainsFunc encStr (longQ n m) 39 #[.pointer (some ⟨X, 0, none⟩), .pointer (some ⟨Y, 0, none⟩)] (enters_of Tryz.func39 (by kernel_rfl) rfl) g 0 l.length cap l w hp (Nat.le_refl _) (by omega) (fun j hj => by
      rw [Nat.zero_add]
      exact owns_cell hr (by rw [List.getElem?_map, List.getElem?_eq_getElem hj, getElem!_pos l j hj]; rfl))
    rw [List.take_length] at this
    refine this.mono ?_
    rintro e w' ⟨rfl, q, rfl⟩
    exact ⟨rfl, (Below.refl _ _).trans ⟨rfl, rfl, rfl, Nat.le_refl _, fun _ _ => rfl⟩⟩
theorem house_move {N : Nat} {w w1 w2 : World} {H mb mw : Nat} {h : HouseC} {s t : Bs} (hS : HouseS N w H mb mw h) (hs : s ∈ h.L) (ht : t.length ≤ 60) (hk1 : Kept (fun k => k = mb) w w1) (hk2 : Kept (fun k => k = mb) w1 w2)
    (hP : PM w2 mb (insS t (delS s h.L)) (fun x => if x = t then (h.box s).blk else (h.box x).blk)) : HouseS N w2 H mb mw (moveC h s t) := by
  have hk := hk1.trans (hk2.mono (fun _ _ e => e))
  have hbx : ∀ x, x ∈ insS t (delS s h.L) → ∃ y, y ∈ h.L ∧ (moveC h s t).box x = h.box y ∧ ((x = t ∧ y = s) ∨ (x ≠ t ∧ x ≠ s ∧ y = x)) := fun x hx => by
    by_cases e : x = t
    · refine ⟨s, hs, ?_, Or.inl ⟨e, rfl⟩⟩
      show updB h.box t (h.box s) x = _
      unfold updB; rw [if_pos e]
    · have := mem_delS.1 ((mem_insS.1 hx).resolve_left e)
      refine ⟨x, this.1, ?_, Or.inr ⟨e, this.2, rfl⟩⟩
      show updB h.box t (h.box s) x = _
      unfold updB; rw [if_neg e]
  refine { hS with cells := hk.obj hS.cells hS.nes.1, boxes := hP.congr fun x _ => ?_, wants := hS.wants.kept hk (fun e => hS.ne e.symm), box := fun x hx => ?_, inj := fun x hx y hy e => ?_, lenL := fun x hx => ?_, slc := fun x hx => ?_ }
  · show (updB h.box t (h.box s) x).blk = _
    unfold updB; split <;> rfl
  · obtain ⟨y, hy, e, _⟩ := hbx x hx
    rw [e]
    exact ⟨(hS.box y hy).1, hk.obj (hS.box y hy).2 (hS.box_ne hy).2.1⟩
  · obtain ⟨x', hx', e1, c1⟩ := hbx x hx
    obtain ⟨y', hy', e2, c2⟩ := hbx y hy
    rw [e1, e2] at e
    have := hS.inj x' hx' y' hy' e
    subst this
    rcases c1 with ⟨rfl, rfl⟩ | ⟨a1, a2, rfl⟩ <;> rcases c2 with ⟨rfl, h2⟩ | ⟨b1, b2, h2⟩
    · rfl
    · exact absurd h2.symm b2
    · exact absurd h2 a2
    · exact h2
  · rcases mem_insS.1 hx with rfl | h1
    · exact ht
    · exact hS.lenL x (mem_delS.1 h1).1
  · obtain ⟨y, hy, e, _⟩ := hbx x hx
    rw [e]
    exact hS.slc y hy
/-- what Rename says, and leaves, of a box that is not INBOX -/
def RenamedS (N : Nat) (w : World) (H mb mw : Nat) (h : HouseC) (r : Nat ⊕ (Bs × Bs)) (e : Ending) (w' : World) : Prop := match r with
  | .inl k => e = .returned (eno k) ∧ Below w.heap.size w w'
  | .inr (n, m) => e = .returned .nilIface ∧ ∃ bs : List Nat, (haboveF h.L m).length = bs.length ∧ HouseS N w' H mb mw (makeAll (moveAll h n m (hinsideF h.L n ++ [n])) (haboveF h.L m) bs) ∧ Kept (fun k => k = H ∨ k = mb) w w'
set_option linter.constructorNameAsVariable false in
set_option maxRecDepth 100000 in
set_option maxHeartbeats 16000000 in
theorem hrename_more (N H mb mw : Nat) (h : HouseC) (a b n m : Bs) (w : World) (hS : HouseS N w H mb mw h) (hN : N ≤ w.heap.size) (ha : a.length ≤ 1000000) (hb : b.length ≤ 1000000) (hm : h.L.length ≤ 1000) (hG : HG w) (h0 : 0 ≤ h.next) (h1 : h.next ≤ 3000000000) (hg : hgetF h.L a = .inr n) (hn2 : hnameF b = some m) (hni : n ≠ inboxB) :
    Calls Tryz.prog 12 #[.pointer (some ⟨H, 0, none⟩), .string ⟨a.toArray⟩, .string ⟨b.toArray⟩] w (RenamedS N w H mb mw h (moreF h.L n m)) := by
  have cG := hget_any N H mb mw h a w hS ha hG
  rw [hg] at cG
  obtain ⟨hn, hmem⟩ := hget_inr hg
  have hl := (hnameF_len hn).1
  have hlm := (hnameF_len hn2).1
  have cG : Calls Tryz.prog 10 #[.pointer (some ⟨H, 0, none⟩), .string ⟨a.toArray⟩] w fun e w' => e = .returned (.tuple #[.pointer (some ⟨(h.box n).blk, 0, none⟩), .nilIface]) ∧ Below w.heap.size w w' := cG
  have cN1 : ∀ W, HG W → Calls Tryz.prog 8 #[.string ⟨a.toArray⟩] W fun e w' => e = .returned (.tuple #[.string ⟨n.toArray⟩, .nilIface]) ∧ Below W.heap.size W w' := fun W hW => by
    have := hname_any a W ha hW
    rw [hn] at this
    exact this
  have cN2 : ∀ W, HG W → Calls Tryz.prog 8 #[.string ⟨b.toArray⟩] W fun e w' => e = .returned (.tuple #[.string ⟨m.toArray⟩, .nilIface]) ∧ Below W.heap.size W w' := fun W hW => by
    have := hname_any b W hb hW
    rw [hn2] at this
    exact this
  have HS := Lib.hid hS
  have HGW := Lib.hid hG
  have HMEM := Lib.hid hmem
  have HNI := Lib.hid hni
  have tn := text_size n
  have tm := text_size m
  clear hg hn hn2 hS hG hmem hni
  obtain ⟨R, hR⟩ : ∃ R, moreF h.L n m = R := ⟨_, rfl⟩
  rw [hR]
  unfold moreF at hR
  have HR := Lib.hid hR
  clear hR
  go_enter Tryz.func12, Tryz.ntmps12
  go_upto_block 0 with (first
    | (go_at_call 10; ((with_reducible refine cG.mono ?_); rintro e w1 ⟨rfl, hb1⟩))
    | (go_at_call 8; ((with_reducible refine (cN1 _ (HGW.out.below hb1)).mono ?_); rintro e w2 ⟨rfl, hb2⟩; have hb2 := hb1.trans (hb2.mono hb1.size); have hb2a := hb2.alloc hb2.size (.cells #[.string ⟨n.toArray⟩] 9); have x2 : (w2.alloc (.cells #[.string ⟨n.toArray⟩] 9)).cell? ⟨w2.heap.size, 0, none⟩ = some (.string ⟨n.toArray⟩) := by rw [Lib.cell_of_heap (World.heap_alloc_new w2 _)]; rfl))
    | (go_at_call 8; ((with_reducible refine (cN2 _ (HGW.out.below hb2a)).mono ?_); rintro e w3 ⟨rfl, hb3⟩; have x3 := below_cell hb3 x2; have s3 := hb3.size; have hb3 := hb2a.trans (hb3.mono hb2a.size))))
  have y4 := hb3.alloc hb3.size (.cells #[.string ⟨m.toArray⟩] 9)
  have hx4 : (w3.alloc (.cells #[.string ⟨m.toArray⟩] 9)).cell? ⟨w2.heap.size, 0, none⟩ = some (.string ⟨n.toArray⟩) := below_cell ((Below.refl _ _).alloc (Nat.le_refl _) _) x3
  have hy4 : (w3.alloc (.cells #[.string ⟨m.toArray⟩] 9)).cell? ⟨w3.heap.size, 0, none⟩ = some (.string ⟨m.toArray⟩) := by rw [Lib.cell_of_heap (World.heap_alloc_new w3 _)]; rfl
  have hX0 := hb2.size
  have hY0 := hb3.size
  have hsz4 := alloc_size w3 (.cells #[.string ⟨m.toArray⟩] 9)
  generalize w3.alloc (.cells #[.string ⟨m.toArray⟩] 9) = w4 at y4 hx4 hy4 hsz4 ⊢
  rw [alloc_size] at s3
  obtain ⟨X, hX⟩ : ∃ X, w2.heap.size = X := ⟨_, rfl⟩
  obtain ⟨Y, hY⟩ : ∃ Y, w3.heap.size = Y := ⟨_, rfl⟩
  rw [hX] at hx4 hX0 s3 ⊢
  rw [hY] at hy4 hY0 hsz4 s3 ⊢
  have hX4 : X < w4.heap.size := by omega
  have hY4 : Y < w4.heap.size := by omega
  clear hX hY hb3 x3 x2 hb2a hb2 hb1 s3 cG cN1 cN2 hsz4
  have hc4 := (three_cells (HS.out.below y4).cells).1
  have hl4 : Hid (∀ q, PM (w4.drewN q) mb h.L (fun x => (h.box x).blk)) := Lib.hid fun q => (HS.out.below (y4.trans ((below_drewN w4 q).mono y4.size))).boxes
  by_cases hmL : m ∈ h.L
  · have hRv := HR.out
    rw [if_pos hmL] at hRv
    subst hRv
    have hlk : ∀ q, (Instr.lookup 58 (.map (some mb)) (.string ⟨m.toArray⟩) false).run Tryz.prog (w4.drewN q) = .ok (.pointer (some ⟨(h.box m).blk, 0, none⟩)) (w4.drewN q) := fun q => pm_look_yes (hl4.out q) (by omega) hmL
    clear hmL HR
    go_wp2_with fail
    go_quiet (fail)
    go_wp2_with fail
    go_ret
    exact ⟨rfl, y4.trans ((below_drewN w4 _).mono y4.size)⟩
  have hlk : ∀ q, (Instr.lookup 58 (.map (some mb)) (.string ⟨m.toArray⟩) false).run Tryz.prog (w4.drewN q) = .ok (.pointer none) (w4.drewN q) := fun q => pm_look_no (hl4.out q) (by omega) hmL
  have HML := Lib.hid hmL
  have hR2 := HR.out
  rw [if_neg hmL] at hR2
  have HR2 := Lib.hid hR2
  clear hR2 HR hmL
  go_wp2_with fail
  go_quiet (fail)
  have y5 : Below w.heap.size w (w4.drewN nq) := y4.trans ((below_drewN w4 _).mono y4.size)
  have hx5 : (w4.drewN nq).cell? ⟨X, 0, none⟩ = some (.string ⟨n.toArray⟩) := hx4
  have hy5 : (w4.drewN nq).cell? ⟨Y, 0, none⟩ = some (.string ⟨m.toArray⟩) := hy4
  have hX5 : X < (w4.drewN nq).heap.size := hX4
  have hY5 : Y < (w4.drewN nq).heap.size := hY4
  generalize w4.drewN nq = w5 at y5 hx5 hy5 hX5 hY5 ⊢
  clear hlk hl4 hc4 hx4 hy4 y4 hX4 hY4
  obtain ⟨nm, hnm⟩ : ∃ nm, n ++ [47] = nm := ⟨_, rfl⟩
  have hct : (⟨n.toArray⟩ : ByteArray) ++ ⟨#[47]⟩ = ⟨nm.toArray⟩ := by rw [← hnm]; exact text_cat n [47]
  have HR3 := HR2.out
  rw [hnm] at HR3
  have HR3 := Lib.hid HR3
  clear hnm HR2
  have cP : ∀ W, Calls Tryz.prog 13 #[.string ⟨m.toArray⟩, .string ⟨nm.toArray⟩] W fun e w' => e = .returned (.bool (Lib.hasPrefix m nm)) ∧ W = w' := fun W => (Tryz.strings_HasPrefix ⟨m.toArray⟩ ⟨nm.toArray⟩ W).mono fun _ _ ⟨h1, h2⟩ => ⟨h1, h2.symm⟩
  have hnb : (n == [73, 78, 66, 79, 88]) = false := by rw [beq_eq_false_iff_ne]; exact HNI.out
  have hnb2 : (n != [73, 78, 66, 79, 88]) = true := by rw [bne, hnb]; rfl
  obtain ⟨bp, hbp⟩ : ∃ bp, Lib.hasPrefix m nm = bp := ⟨_, rfl⟩
  rw [hbp] at cP
  have hR3 := HR3.out
  rw [hbp] at hR3
  clear hbp HR3
  cases bp with
  | true =>
    rw [if_pos rfl] at hR3
    subst hR3
    go_wp2_with (go_at_call 13; ((with_reducible refine (cP _).mono ?_); rintro e w6 ⟨rfl, rfl⟩))
    go_ret
    exact ⟨rfl, y5⟩
  | false =>
  rw [if_neg (by simp)] at hR3
  have HR4 := Lib.hid hR3
  clear hR3
  have cI := fun W (hW : Below w.heap.size w W) => hinside_any N H mb mw h n W (HS.out.below hW) (by omega) (by omega)
  have cA := fun W (hW : Below w.heap.size w W) => habove_any N H mb mw h m W (HS.out.below hW) (by omega)
  have hIl : (hinsideF h.L n).length ≤ h.L.length := List.length_filter_le _ _
  have hAl : (haboveF h.L m).length ≤ 60 := Nat.le_trans (above_len h.L m m.length) hlm
  have hlong : (hinsideF h.L n).any (longQ n m) = (hinsideF h.L n).any (fun s => decide (60 < s.length - n.length + m.length)) := by
    rw [Bool.eq_iff_iff, List.any_eq_true, List.any_eq_true]
    have key : ∀ s ∈ hinsideF h.L n, longQ n m s = decide (60 < s.length - n.length + m.length) := fun s hs => by
      obtain ⟨h1, r, hr⟩ := inside_mem hs
      have := HS.out.lenL s h1
      exact longQ_is (by rw [hr]; simp) (by omega) (by omega)
    exact ⟨fun ⟨s, hs, e⟩ => ⟨s, hs, by rw [← key s hs]; exact e⟩, fun ⟨s, hs, e⟩ => ⟨s, hs, by rw [key s hs]; exact e⟩⟩
  have hR4 := HR4.out
  rw [← hlong] at hR4
  have HR5 := Lib.hid hR4
  clear hR4 HR4 hlong
  obtain ⟨I, hI⟩ : ∃ I, hinsideF h.L n = I := ⟨_, rfl⟩
  obtain ⟨A, hA⟩ : ∃ A, haboveF h.L m = A := ⟨_, rfl⟩
  have HI := Lib.hid hI
  have HA := Lib.hid hA
  have hR5 := HR5.out
  rw [hI] at hIl hR5
  rw [hA] at hAl hR5
  have cI : ∀ W, Below w.heap.size w W → Calls Tryz.prog 36 #[.pointer (some ⟨H, 0, none⟩), .string ⟨n.toArray⟩] W (NamesS (W.heap.size + 1) W I) := fun W hW => by rw [← hI]; exact cI W hW
  have cA : ∀ W, Below w.heap.size w W → Calls Tryz.prog 37 #[.pointer (some ⟨H, 0, none⟩), .string ⟨m.toArray⟩] W (NamesS W.heap.size W A) := fun W hW => by rw [← hA]; exact cA W hW
  obtain ⟨bl, hbl⟩ : ∃ bl, I.any (longQ n m) = bl := ⟨_, rfl⟩
  rw [hbl] at hR5
  have HBL := Lib.hid hbl
  have HR6 := Lib.hid hR5
  clear hI hA HR5 hR5 hbl
  have hcl : ∀ W, Below w.heap.size w W → W.cell? ⟨H, 0, none⟩ = some (.map (some mb)) ∧ Hid (PM W mb h.L (fun x => (h.box x).blk)) := fun W hW => ⟨(three_cells (HS.out.below hW).cells).1, (HS.out.below hW).boxes⟩
  cases bl with
  | true =>
    have hR6 := HR6.out
    rw [if_pos rfl] at hR6
    subst hR6
    go_wp2_with (first
      | (go_at_call 13; ((with_reducible refine (cP _).mono ?_); rintro e w6 ⟨rfl, rfl⟩))
      | (go_at_call 36; ((with_reducible refine (cI _ y5).mono ?_); rintro e w7 ⟨v, rfl, hrow, hb7⟩; have y7 := y5.trans (hb7.mono y5.size); have hx7 := below_cell hb7 hx5; have hy7 := below_cell hb7 hy5))
      | (go_at_call 37; ((with_reducible refine (cA _ y7).mono ?_); rintro e w8 ⟨v2, rfl, hrow2, hb8⟩; have y8 := y7.trans (hb8.mono y7.size); have hx8 := below_cell hb8 hx7; have hy8 := below_cell hb8 hy7; have hrow8 := owns_same hrow (fun k o hk _ => below_same hb8 hk); have cL := long_row hrow8 (by omega) hx8 hy8; rw [HBL.out] at cL))
      | (go_at_call 38; ((with_reducible refine cL.mono ?_); rintro e w9 ⟨rfl, hb9⟩)))
    go_ret
    exact ⟨rfl, y8.trans (hb9.mono y8.size)⟩
  | false =>
  have hR7 := HR6.out
  rw [if_neg (by simp)] at hR7
  have hHlt := HS.out.lt
  have hso := HS.out.boxes.sorts
  have HSO := Lib.hid hso
  clear hso
  by_cases hbig : 30 < h.L.length + A.length
  · rw [if_pos hbig] at hR7
    subst hR7
    have hbz : (30 : Int) < (h.L.length : Int) + (A.length : Int) := by omega
    clear hbig
    go_wp2_with (first
      | (go_at_call 13; ((with_reducible refine (cP _).mono ?_); rintro e w6 ⟨rfl, rfl⟩))
      | (go_at_call 36; ((with_reducible refine (cI _ y5).mono ?_); rintro e w7 ⟨v, rfl, hrow, hb7⟩; have y7 := y5.trans (hb7.mono y5.size); have hx7 := below_cell hb7 hx5; have hy7 := below_cell hb7 hy5; obtain ⟨ao, cap, rfl⟩ := owns_val hrow))
      | (go_at_call 37; ((with_reducible refine (cA _ y7).mono ?_); rintro e w8 ⟨v2, rfl, hrow2, hb8⟩; have y8 := y7.trans (hb8.mono y7.size); have hx8 := below_cell hb8 hx7; have hy8 := below_cell hb8 hy7; have hrow8 := owns_same hrow (fun k o hk _ => below_same hb8 hk); have cL := long_row hrow8 (by omega) hx8 hy8; rw [HBL.out] at cL; obtain ⟨ao2, cap2, rfl⟩ := owns_val hrow2))
      | (go_at_call 38; ((with_reducible refine cL.mono ?_); rintro e w9 ⟨rfl, hb9⟩; have y9 := y8.trans (hb9.mono y8.size); obtain ⟨hc9, hP9⟩ := hcl w9 y9))
      | (at_len; refine wpList_len_pm _ rfl _ rfl mb h.L _ rfl hP9.out ?_))
    go_ret
    exact ⟨rfl, y9⟩
  rw [if_neg hbig] at hR7
  subst hR7
  have hbz : ¬ ((30 : Int) < (h.L.length : Int) + (A.length : Int)) := by omega
  have hL30 : h.L.length ≤ 30 := by omega
  clear hbig
  go_upto_region 26 with (first
      | (go_at_call 13; ((with_reducible refine (cP _).mono ?_); rintro e w6 ⟨rfl, rfl⟩))
      | (go_at_call 36; ((with_reducible refine (cI _ y5).mono ?_); rintro e w7 ⟨v, rfl, hrow, hb7⟩; have y7 := y5.trans (hb7.mono y5.size); have hx7 := below_cell hb7 hx5; have hy7 := below_cell hb7 hy5; obtain ⟨ao, cap, rfl⟩ := owns_val hrow))
      | (go_at_call 37; ((with_reducible refine (cA _ y7).mono ?_); rintro e w8 ⟨v2, rfl, hrow2, hb8⟩; have y8 := y7.trans (hb8.mono y7.size); have hx8 := below_cell hb8 hx7; have hy8 := below_cell hb8 hy7; have hrow8 := owns_same hrow (fun k o hk _ => below_same hb8 hk); have cL := long_row hrow8 (by omega) hx8 hy8; rw [HBL.out] at cL; obtain ⟨ao2, cap2, rfl⟩ := owns_val hrow2))
      | (go_at_call 38; ((with_reducible refine cL.mono ?_); rintro e w9 ⟨rfl, hb9⟩; have y9 := y8.trans (hb9.mono y8.size); obtain ⟨hc9, hP9⟩ := hcl w9 y9; have hx9 := below_cell hb9 hx8; have hy9 := below_cell hb9 hy8))
      | (at_len; refine wpList_len_pm _ rfl _ rfl mb h.L _ rfl hP9.out ?_))
  have hrow9 := ownsRow_base_a (owns_same hrow8 (fun k o hk _ => below_same hb9 hk)) (Nat.le_succ w5.heap.size)
  have hrow29 := owns_same hrow2 (fun k o hk _ => below_same hb9 hk)
  have hb59 : Below w5.heap.size w5 w9 := (hb7.trans (hb8.mono hb7.size)).trans (hb9.mono (Nat.le_trans hb7.size hb8.size))
  have hOB : ∀ g, (Value.slice ao I.length cap).ownBlock = some g → g < w7.heap.size := fun g hg => (hrow.lt g hg).2
  have hOB2 : ∀ g, (Value.slice ao2 A.length cap2).ownBlock = some g → w7.heap.size ≤ g := fun g hg => (hrow2.lt g hg).1
  have hXY : X < w5.heap.size ∧ Y < w5.heap.size := ⟨hX5, hY5⟩
  have hsz59 := hb59.size
  have hI60 : I.length ≤ 30 := by omega
  clear hrow hrow2 hrow8 hb7 hb8 hb9 hx7 hy7 hx8 hy8 cL cI cA cP y7 y8 hcl hHlt
  go_wp2_with (at_builtin; go_must (refine wpList_app1 rfl _ _ 38 rfl 9 Tryz.underlying38 str_info rfl w5.heap.size _ _ _ _ rfl hrow9 _ rfl rfl ?hn (by decide) hsz59 ?_))
  case hn => omega
  intro v' w10 o10 g10 hv10
  have hb10 : Below w5.heap.size w5 w10 := below_app hb59 hsz59 hrow9 g10
  have o29 : w10.ownsRow w7.heap.size 9 1 (.slice ao2 A.length cap2) A.length (A.map encStr) := (hrow29.alloc _).kept g10 (by
    cases hq : (Value.slice ao2 A.length cap2).ownBlock with
    | none => exact Or.inl rfl
    | some g =>
      refine Or.inr fun e => ?_
      have h1 := hOB2 g hq
      have h2 := hOB g e.symm
      omega)
  have y10 : Below w.heap.size w w10 := y5.trans (hb10.mono y5.size)
  have hx10 := below_cell hb10 hx5
  have hy10 := below_cell hb10 hy5
  obtain ⟨gb, cap', rfl⟩ := owns_form o10 (by omega)
  obtain ⟨M, hM⟩ : ∃ M, I.length + 1 = M := ⟨_, rfl⟩
  obtain ⟨l, hle⟩ : ∃ l, I ++ [n] = l := ⟨_, rfl⟩
  have hlM : l.length = M := by rw [← hM, ← hle]; simp
  have o11 : w10.ownsRow w5.heap.size 9 1 (.slice (some ⟨gb, 0, none⟩) M cap') M (l.map encStr) := by
    rw [← hle, List.map_append, ← hM]; exact o10
  have HLE : Hid (hinsideF h.L n ++ [n] = l) := Lib.hid (by rw [HI.out, hle])
  have hS10 : HouseS N w10 H mb mw h := HS.out.below y10
  have HS10 := Lib.hid hS10
  have O11 := Lib.hid o11
  have O29 := Lib.hid o29
  have HLM := Lib.hid hlM
  have hM31 : M ≤ 31 := by omega
  have HND : Hid (l.Nodup) := Lib.hid (by rw [← HLE.out]; exact inside_fresh HSO.out n)
  have HTL : Hid (∀ s ∈ l, s ∈ h.L ∧ (m ++ s.drop n.length).length ≤ 60 ∧ s.length ≤ 60 ∧ n.length ≤ s.length) := Lib.hid (by
    intro s hs
    rw [← HLE.out] at hs
    rcases List.mem_append.1 hs with h1 | h1
    · obtain ⟨h2, r, hr⟩ := inside_mem h1
      have h60 := HS.out.lenL s h2
      have hns : n.length ≤ s.length := by rw [hr]; simp
      have hq : longQ n m s = false := by
        have := HBL.out
        rw [List.any_eq_false] at this
        have := this s (by rw [← HI.out]; exact h1)
        simpa using this
      rw [longQ_is hns (by omega) (by omega), decide_eq_false_iff_not] at hq
      refine ⟨h2, ?_, h60, hns⟩
      rw [List.length_append, List.length_drop]
      omega
    · rw [List.mem_singleton] at h1
      subst h1
      refine ⟨HMEM.out, ?_, hl, Nat.le_refl _⟩
      rw [List.length_append, List.length_drop]
      omega)
  have hmb : mb < w.heap.size := HS.out.lt.2.1
  have hX10 : X < w10.heap.size := Nat.lt_of_lt_of_le hX5 hb10.size
  have hY10 : Y < w10.heap.size := Nat.lt_of_lt_of_le hY5 hb10.size
  have hXm : X ≠ mb ∧ Y ≠ mb := ⟨by omega, by omega⟩
  rw [hM]
  clear hM hle hlM o10 o11 o29 g10 hv10 hrow9 hrow29 hb59 hOB hOB2 hb10 hx5 hy5 hx9 hy9 hc9 hP9 hS10 y9
  go_wp2_with fail
  go_loopg [121] M (fun g s121 wr => ∃ k : Nat, k + g = M ∧ s121 = .int .i64 (k : Int) ∧ Hid (HouseS N wr H mb mw (moveAll h n m (l.take k))) ∧ Hid (Kept (fun j => j = mb) w10 wr))
  case atStart => exact ⟨0, by omega, rfl, Lib.hid (by simpa [moveAll] using HS10.out), Lib.hid (Kept.refl _ _)⟩
  case round =>
    obtain ⟨k, hk, rfl, HH, HK⟩ := hrel
    have hrowr := row_house HS10.out HK.out (fun j e => Or.inr (Or.inl e)) O11.out
    by_cases hlt : k < M
    · obtain ⟨g', rfl⟩ : ∃ g', gk = g' + 1 := ⟨gk - 1, by omega⟩
      obtain ⟨s, hs⟩ : ∃ s, l[k]? = some s := ⟨l[k]'(by rw [HLM.out]; exact hlt), List.getElem?_eq_getElem _⟩
      have hkz : (k : Int) < (M : Int) := by omega
      have hcs : wr.cell? ⟨gb, k, none⟩ = some (.string ⟨s.toArray⟩) := owns_cell hrowr (by rw [List.getElem?_map, hs]; rfl)
      have hxr : wr.cell? ⟨X, 0, none⟩ = some (.string ⟨n.toArray⟩) := (World.cell?_of_block (w := w10) (HK.out.block X (by omega) hXm.1)).trans hx10
      have hyr : wr.cell? ⟨Y, 0, none⟩ = some (.string ⟨m.toArray⟩) := (World.cell?_of_block (w := w10) (HK.out.block Y (by omega) hXm.2)).trans hy10
      obtain ⟨h1s, h2s, h3s, h4s⟩ := HTL.out s (List.mem_of_getElem? hs)
      have hin : s ∈ (moveAll h n m (l.take k)).L := move_keep n m (l.take k) h h1s (nodup_at HND.out hs)
      have hstep : moveC (moveAll h n m (l.take k)) s (m ++ s.drop n.length) = moveAll h n m (l.take (k + 1)) := by
        rw [List.take_add_one, hs]; exact (moveAll_snoc n m (l.take k) h s).symm
      have hLk : (moveAll h n m (l.take k)).L.length ≤ 1000 := by
        have := move_len n m (l.take k) h HSO.out
        rw [List.length_take] at this
        omega
      obtain ⟨hq, hhq⟩ : ∃ hq, moveAll h n m (l.take k) = hq := ⟨_, rfl⟩
      rw [hhq] at hin hstep hLk HH
      have hcr := (three_cells HH.out.cells).1
      have hlook := pm_look_yes HH.out.boxes (s := s) (by omega) hin
      obtain ⟨Bq, hBq⟩ : ∃ Bq, (hq.box s).blk = Bq := ⟨_, rfl⟩
      rw [hBq] at hlook
      have HPr := Lib.hid HH.out.boxes
      have HIN := Lib.hid hin
      have HST := Lib.hid hstep
      have HBQ := Lib.hid hBq
      clear hs hrowr hin hstep hhq hBq h1s
      go_upto_region 31 with (at_delete; refine wpList_delete_pm _ rfl _ _ rfl mb hq.L _ rfl HPr.out s rfl (by omega) ?_; intro w11 hP11 hK11)
      have hmk : Kept (fun j => j = mb) w10 w11 := HK.out.trans (hK11.mono (fun _ _ e => e))
      have hxd : w11.drew.cell? ⟨X, 0, none⟩ = some (.string ⟨n.toArray⟩) := (World.cell?_of_block (w := w10) (hmk.block X (by omega) hXm.1)).trans hx10
      have hyd : w11.drew.cell? ⟨Y, 0, none⟩ = some (.string ⟨m.toArray⟩) := (World.cell?_of_block (w := w10) (hmk.block Y (by omega) hXm.2)).trans hy10
      have hcd : w11.drew.cell? ⟨H, 0, none⟩ = some (.map (some mb)) := (three_cells (hK11.obj HH.out.cells HH.out.nes.1)).1
      obtain ⟨t, ht⟩ : ∃ t, m ++ s.drop n.length = t := ⟨_, rfl⟩
      obtain ⟨d, hd⟩ : ∃ d, s.drop n.length = d := ⟨_, rfl⟩
      have hpd : (⟨s.toArray⟩ : ByteArray).extract n.length s.length = ⟨d.toArray⟩ := by rw [text_part, ← hd, List.take_of_length_le (by simp)]
      have htd : (⟨m.toArray⟩ : ByteArray) ++ ⟨d.toArray⟩ = ⟨t.toArray⟩ := by rw [← ht, ← hd]; exact text_cat _ _
      have hdl : d.length ≤ 60 := by rw [← hd, List.length_drop]; omega
      rw [ht] at h2s
      have tsz := text_size s
      have tsd := text_size d
      have hsl : ∀ W : World, (Instr.slice 9 (.string ⟨s.toArray⟩) (some (.int .i64 (n.length : Int))) none none).run Tryz.prog W = .ok (.string ⟨d.toArray⟩) W := fun W => by
        rw [run_slice_string_from_if W 9 ⟨s.toArray⟩ .i64 (n.length : Int) Tryz.underlying9, if_pos (by rw [tsz]; constructor <;> omega), tsz, Int.toNat_natCast, hpd]
      have hadd : ∀ W : World, (Op.stringOp .add ⟨m.toArray⟩ ⟨d.toArray⟩).run Tryz.prog W = .ok (.string ⟨t.toArray⟩) W := fun W => by
        have e1 : (⟨m.toArray⟩ : ByteArray).size + (⟨d.toArray⟩ : ByteArray).size ≤ 9223372036854775807 := by rw [tm, tsd]; omega
        rw [run_string_add_sum W _ _ e1, htd]
      obtain ⟨w12, hrun, hP12, hK12⟩ := pm_store_run (w := w11.drew) (M := mb) (L := delS s hq.L) (f := fun x => (hq.box x).blk) (hP11.below (Below.refl _ _).drew) (s := t) (by omega) Bq (by have := delS_le s hq.L; omega)
      have hmove := house_move HH.out HIN.out h2s hK11 (Kept.trans (kept_below (Below.refl _ w11).drew) hK12) (by rw [HBQ.out]; exact hP12)
      have hstep2 := HST.out
      rw [ht] at hstep2
      rw [hstep2] at hmove
      have HMV := Lib.hid hmove
      have HKF : Hid (Kept (fun j => j = mb) w10 w12) := Lib.hid (hmk.trans (Kept.trans (kept_below (Below.refl _ w11).drew) (hK12.mono (fun _ _ e => e))))
      have hc12 := (three_cells HMV.out.cells).1
      have hx12 : w12.cell? ⟨X, 0, none⟩ = some (.string ⟨n.toArray⟩) := (World.cell?_of_block (w := w10) (HKF.out.block X (by omega) hXm.1)).trans hx10
      have hy12 : w12.cell? ⟨Y, 0, none⟩ = some (.string ⟨m.toArray⟩) := (World.cell?_of_block (w := w10) (HKF.out.block Y (by omega) hXm.2)).trans hy10
      clear ht hd hmove hstep2 hP11 hK11 hP12 hK12 hmk hcr hxr hyr hlook hcs HPr
      go_region_held3 (fun W => W.cell? ⟨H, 0, none⟩ = some (.map (some mb)) ∧ W.cell? ⟨X, 0, none⟩ = some (.string ⟨n.toArray⟩) ∧ W.cell? ⟨Y, 0, none⟩ = some (.string ⟨m.toArray⟩))
        (first | exact ⟨hcd, hxd, hyd⟩ | exact ⟨hc12, hx12, hy12⟩)
        (fail)
      go_wp2_with fail
      go_roundg g'
      case measure => omega
      case rel => exact ⟨k + 1, by omega, by go_num, HMV, HKF⟩
    · obtain rfl : k = M := by omega
      have hfull : l.take k = l := List.take_of_length_le (by rw [HLM.out]; exact Nat.le_refl _)
      have HH2 : Hid (HouseS N wr H mb mw (moveAll h n m l)) := Lib.hid (by rw [← hfull]; exact HH.out)
      have OA := Lib.hid (row_house HS10.out HK.out (fun j e => Or.inr (Or.inl e)) O29.out)
      have HKW : Hid (Kept (fun j => j = H ∨ j = mb) w wr) := Lib.hid ((kept_below y10).trans (HK.out.mono (fun _ _ e => Or.inr e)))
      obtain ⟨wo, rfl⟩ : ∃ wo : World, wo = wr := ⟨_, rfl⟩
      obtain ⟨hv, hhv⟩ : ∃ hv, moveAll h n m l = hv := ⟨_, rfl⟩
      have HFA : Hid ((A.Nodup ∧ ∀ y ∈ A, y ∉ hv.L) ∧ ∀ y ∈ A, y.length ≤ 60) := Lib.hid (by
        refine ⟨⟨by rw [← HA.out]; exact above_nodup h.L m, fun y hy => ?_⟩, fun y hy => ?_⟩
        · rw [← hhv]
          rw [← HA.out] at hy
          exact above_out hy
        · rw [← HA.out] at hy
          obtain ⟨i, hi, _, e, _⟩ := above_mem hy
          rw [e, List.length_take]
          omega)
      have hnxt : hv.next = h.next := by rw [← hhv]; exact (move_same n m l h).2
      have hvs : Hid (Sorts hv.L) := Lib.hid (by rw [← hhv]; exact move_sorts n m l h HSO.out)
      have hvl : hv.L.length ≤ 100 := by
        rw [← hhv]
        have := move_len n m l h HSO.out
        rw [HLM.out] at this
        omega
      have HFE : Hid (moveAll h n m (hinsideF h.L n ++ [n]) = hv) := Lib.hid (by rw [HLE.out, hhv])
      rw [hhv] at HH2
      have hAl2 : A.length ≤ 30 := by omega
      have hend : ∀ wr bs, A.length = bs.length → HouseS N wr H mb mw (makeAll hv A bs) → Kept (fun j => j = H ∨ j = mb) w wr → RenamedS N w H mb mw h (.inr (n, m)) (.returned .nilIface) wr := fun wr bs e1 e2 e3 => ⟨rfl, bs, by rw [HA.out]; exact e1, by rw [HFE.out, HA.out]; exact e2, e3⟩
      have HEND := Lib.hid hend
      have HNX := Lib.hid hnxt
      clear hfull HH hhv HLE hnxt HS10 O11 O29 hx10 hy10 HK y10 hend
      cases ao2 with
      | none =>
        obtain rfl : A = [] := by
          rcases OA.out.2 with ⟨_, h0⟩ | ⟨g, cap, cur, e, _⟩
          · exact List.eq_nil_of_length_eq_zero h0
          · cases e
        go_wp2_with fail
        go_loopg [150] 0 (fun g s150 wr => s150 = .int .i64 0 ∧ wr = wo)
        case atStart => exact ⟨rfl, rfl⟩
        case round =>
          obtain ⟨rfl, rfl⟩ := hrel
          go_wp2_with fail
          go_ret
          exact HEND.out _ [] rfl HH2.out HKW.out
      | some p =>
        have hp : ∃ g, p = ⟨g, 0, none⟩ := by
          rcases OA.out.2 with ⟨h0, _⟩ | ⟨g, cap, cur, e, _⟩
          · cases h0
          · cases e; exact ⟨g, rfl⟩
        obtain ⟨ga, rfl⟩ := hp
        go_wp2_with fail
        go_loopg [150] A.length (fun g s150 wr => ∃ (k : Nat) (bs : List Nat), k + g = A.length ∧ s150 = .int .i64 (k : Int) ∧ Hid (k = bs.length) ∧ Hid (HouseS N wr H mb mw (makeAll hv (A.take k) bs)) ∧ Hid (Kept (fun j => j = H ∨ j = mb) w wr) ∧ Hid (wr.ownsRow w7.heap.size 9 1 (.slice (some ⟨ga, 0, none⟩) A.length cap2) A.length (A.map encStr)))
        case atStart => exact ⟨0, [], by omega, rfl, Lib.hid rfl, HH2, HKW, OA⟩
        case round =>
          clear HH2 HKW OA
          obtain ⟨k, bs, hk, rfl, HB, HH, HK, HO⟩ := hrel
          by_cases hlt2 : k < A.length
          · obtain ⟨g', rfl⟩ : ∃ g', gk = g' + 1 := ⟨gk - 1, by omega⟩
            obtain ⟨x, hx⟩ : ∃ x, A[k]? = some x := ⟨A[k], List.getElem?_eq_getElem hlt2⟩
            have htl : (A.take k).length = bs.length := by rw [List.length_take, ← HB.out]; omega
            have hML := makeAll_L hv (A.take k) bs htl
            have hlen : (makeAll hv (A.take k) bs).L.length ≤ 1000 := by
              rw [hML.1, insAll_len hvs.out ((List.take_sublist k A).nodup HFA.out.1.1) (fun y hy => HFA.out.1.2 y (List.mem_of_mem_take hy)), List.length_take]
              omega
            have hnx : (makeAll hv (A.take k) bs).next = h.next + (k : Int) := by rw [hML.2.2, htl, ← HB.out, HNX.out]
            have cM := hmake_any N H mb mw (makeAll hv (A.take k) bs) x wr HH.out (Nat.le_trans hN HK.out.size) (fresh_at HFA.out.1 hx htl) (HFA.out.2 x (List.mem_of_getElem? hx)) hlen (by rw [hnx]; omega) (by rw [hnx]; omega)
            have hstep : ∀ B, makeC (makeAll hv (A.take k) bs) x B = makeAll hv (A.take (k + 1)) (bs ++ [B]) := fun B => by
              rw [List.take_add_one, hx]; exact (makeAll_snoc hv _ bs x B htl).symm
            have hcx : wr.cell? ⟨ga, k, none⟩ = some (.string ⟨x.toArray⟩) := owns_cell HO.out (by rw [List.getElem?_map, hx]; rfl)
            have HST := Lib.hid hstep
            have hkz : (k : Int) < (A.length : Int) := by omega
            clear hx htl hML hlen hnx hstep
            go_wp2_with (go_at_call 23; ((with_reducible refine cM.mono ?_); rintro e w15 ⟨rfl, B, hB5, hS5, hK5⟩))
            have o5 := row_house HH.out hK5 (fun j e => e.elim Or.inl (fun e => Or.inr (Or.inl e))) HO.out
            rw [HST.out] at hS5
            go_roundg g'
            case measure => omega
            case rel => exact ⟨k + 1, bs ++ [B], by omega, by go_num, Lib.hid (by rw [List.length_append, ← HB.out]; rfl), Lib.hid hS5, Lib.hid (HK.out.trans (hK5.mono (fun _ _ e => e))), Lib.hid o5⟩
          · obtain rfl : k = A.length := by omega
            have hfin : HouseS N wr H mb mw (makeAll hv A bs) := by
              have := HH.out
              rwa [List.take_length] at this
            have HFIN := Lib.hid hfin
            clear hfin
            go_wp2_with fail
            go_ret
            exact HEND.out _ bs HB.out HFIN.out HK.out
end Go.Proofs.YtdlfbhbgemoelaaGreatDoor
