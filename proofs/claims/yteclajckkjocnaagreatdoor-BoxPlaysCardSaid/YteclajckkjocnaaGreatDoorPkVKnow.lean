/- The reference's view by its cells; the walk over its Open. No condition beyond those each names. The walk over the reference's Know; what a write of flags into a row of letters leaves. No condition beyond those each names. The walk over the view's Know (slices.Index at ints). No condition beyond those each names. -/
import Derived.Test.YteclajckkjocnaaGreatDoorPkViewN
import Derived.Test.YteclajckkjocnaaGreatDoorPkRBoxC
namespace Go.Proofs.YteclajckkjocnaaGreatDoor
open Go.RowKit Go.Shelf Go.Sort
set_option linter.unusedSimpArgs false
set_option linter.unusedSimpArgs false
/-- a letter as the reference's view bears it -/
def mkL (u : Int × List (List UInt8)) : Let := ⟨u.1, u.2, 0, []⟩
/-- letters as they are seen, with their flags' values -/
def vwL (zs : List (Let × Value)) : List (Let × Value) := zs.map fun z => (mkL (z.1.uid, z.1.flags), z.2)
theorem one_cell {w : World} {U : Nat} {v : Value} {T : TypeId} {fz : Nat × Nat} (h : w.heap[U]? = some (.cells #[v] T fz)) : w.cell? ⟨U, 0, none⟩ = some v := by rw [Lib.cell_of_heap h]; rfl
theorem set1_0 {w : World} {B : Nat} {a u : Value} {T : TypeId} (h : w.heap[B]? = some (.cells #[a] T (0, 0))) : (w.setCell ⟨B, 0, none⟩ u).heap[B]? = some (.cells #[u] T (0, 0)) := by
  simp only [World.setCell, Array.getElem?_modify, if_pos, h]
  simp
/-- the reference's view: its block, its row of letters -/
def RVS (N : Nat) (w : World) (U : Nat) (lv : Value) (us : Us) : Prop := ∃ zs, w.heap[U]? = some (.cells #[lv] 49 (0, 0)) ∧ w.ownsRow N 51 4 lv zs.length (cellsL zs) ∧ zs.map (·.1) = us.map mkL ∧ ∀ z ∈ zs, SRow w z.2 z.1.flags ∧ SafeV N w z.2
attribute [local go_sem ↓] Go.wp_at_zero Go.wp_at_succ
set_option maxRecDepth 100000 in
set_option maxHeartbeats 8000000 in
theorem ropen_any (N : Nat) (b : BoxP) (lv : Value) (zs : List (Let × Value)) (w : World) (hN : N ≤ w.heap.size) (hzs : zs.map (·.1) = b.ls) (hx : XRow N w lv zs) (hl : b.ls.length ≤ 100000) :
    Calls Tryz.prog 8 #[.agg #[.int .i64 b.valid, .int .i64 b.next, lv]] w fun e w' => ∃ U lu, e = .returned (.pointer (some ⟨U, 0, none⟩)) ∧ w.heap.size ≤ U ∧ (∀ j, lu.ownBlock = some j → w.heap.size ≤ j) ∧ RVS N w' U lu (b.ls.map fun x => (x.uid, x.flags)) ∧ Below w.heap.size w w' := by
  obtain ⟨ao, cap, rfl, _⟩ := hx.1
  have hzl : zs.length ≤ 100000 := by rw [← hzs, List.length_map] at hl; exact hl
  have x0 := World.heap_alloc_new w (.cells #[.int .i64 b.valid, .int .i64 b.next, .slice ao zs.length cap] 26)
  have y0 : Below w.heap.size w (w.alloc (.cells #[.int .i64 b.valid, .int .i64 b.next, .slice ao zs.length cap] 26)) := (Below.refl _ _).alloc (Nat.le_refl _) _
  have s0 := alloc_size w (.cells #[.int .i64 b.valid, .int .i64 b.next, .slice ao zs.length cap] 26)
  obtain ⟨w1, hw1⟩ : ∃ w1, w.alloc (.cells #[.int .i64 b.valid, .int .i64 b.next, .slice ao zs.length cap] 26) = w1 := ⟨_, rfl⟩
  rw [hw1] at x0 y0 s0
  have x1 := World.heap_alloc_new w1 (.cells #[.slice none 0 0] 49)
  have y1 : Below w.heap.size w (w1.alloc (.cells #[.slice none 0 0] 49)) := y0.alloc y0.size _
  have s1 := alloc_size w1 (.cells #[.slice none 0 0] 49)
  have k := alloc_at (o := .cells #[.slice none 0 0] 49) x0
  obtain ⟨k0, k1, k2⟩ := three_cells k
  obtain ⟨w2, hw2⟩ : ∃ w2, w1.alloc (.cells #[.slice none 0 0] 49) = w2 := ⟨_, rfl⟩
  rw [hw2] at x1 y1 s1 k0 k1 k2
  obtain ⟨U, hUe⟩ : ∃ U, w1.heap.size = U := ⟨_, rfl⟩
  rw [hUe] at x1 s1
  have hUw : w.heap.size ≤ U := by omega
  have HW1 := Lib.hid hw1; have HW2 := Lib.hid hw2; have HUE := Lib.hid hUe; have HX1 := Lib.hid x1; have HY1 := Lib.hid y1; have HS1 := Lib.hid s1; have HS0 := Lib.hid s0
  have HX := Lib.hid hx; have HZ := Lib.hid hzs
  clear hw1 hw2 hUe x0 x1 y0 y1 s0 s1 k hx hzs
  go_enter Tryz.func8, Tryz.ntmps8
  go_upto_region 1 with fail
  rw [show w.alloc (.cells #[.int .i64 b.valid, .int .i64 b.next, .slice ao zs.length cap] 26) = w1 from HW1.out]
  go_upto_region 2 with fail
  rw [show w1.alloc (.cells #[.slice none 0 0] 49) = w2 from HW2.out, show w1.heap.size = U from HUE.out]
  go_wp2_with fail
  go_loopg [11] zs.length (fun g s11 wr => ∃ (k : Nat) (vv : Value), k + g = zs.length ∧ s11 = .int .i64 (k : Int) ∧ wr.heap[U]? = some (.cells #[vv] 49 (0, 0)) ∧ wr.ownsRow w.heap.size 51 4 vv k (cellsL (vwL (zs.take k))) ∧ Hid (Below w.heap.size w wr))
  case atStart => exact ⟨0, _, by omega, rfl, HX1.out, World.ownsRow_nil _ _ _ _, HY1⟩
  case round =>
    obtain ⟨m, vv, hk, rfl, hUr, hor, HB⟩ := hrel
    clear k0 k1 k2
    by_cases hlt : m < zs.length
    · obtain ⟨g', rfl⟩ : ∃ g', gk = g' + 1 := ⟨gk - 1, by omega⟩
      obtain ⟨z, hzk⟩ : ∃ z, zs[m]? = some z := ⟨zs[m], List.getElem?_eq_getElem hlt⟩
      obtain ⟨p, off, xa, xc, cap', e1, e2, c0, c1, c2, c3⟩ := xrow_at (HX.out.below HB.out) hzk
      cases e1
      have HTK : Hid (vwL (zs.take (m + 1)) = vwL (zs.take m) ++ [(mkL (z.1.uid, z.1.flags), z.2)]) := by show _ = _; rw [List.take_add_one, hzk]; unfold vwL; rw [List.map_append]; rfl
      obtain ⟨⟨uid, ff, dy, tx⟩, zv⟩ := z
      dsimp only at *
      subst e2
      have hltz : (m : Int) < (zs.length : Int) := by omega
      have y5 := (Below.refl wr.heap.size wr).alloc (Nat.le_refl _) (.cells #[.int .i64 uid, .slice xa ff.length xc, .int .i64 dy, .string ⟨tx.toArray⟩] 51)
      have x5 := World.heap_alloc_new wr (.cells #[.int .i64 uid, .slice xa ff.length xc, .int .i64 dy, .string ⟨tx.toArray⟩] 51)
      have o5 := hor.alloc (.cells #[.int .i64 uid, .slice xa ff.length xc, .int .i64 dy, .string ⟨tx.toArray⟩] 51)
      obtain ⟨wl, hw5⟩ : ∃ wl, wr.alloc (.cells #[.int .i64 uid, .slice xa ff.length xc, .int .i64 dy, .string ⟨tx.toArray⟩] 51) = wl := ⟨_, rfl⟩
      rw [hw5] at y5 x5 o5
      have HW5 := Lib.hid hw5
      have hU5 := below_same y5 hUr
      have hbr := y5.size
      have hbase : w.heap.size ≤ wl.heap.size := Nat.le_trans HB.out.size y5.size
      obtain ⟨Lb, hLb⟩ : ∃ Lb, wr.heap.size = Lb := ⟨_, rfl⟩
      rw [hLb] at x5
      have HUL : Hid (U ≠ Lb) := by show _ ≠ _; have := (Array.getElem?_eq_some_iff.1 hUr).1; omega
      have HNL : Hid (some Lb ≠ vv.ownBlock) := by show _ ≠ _; intro e; have := (hor.lt Lb e.symm).2; omega
      have HLB := Lib.hid hLb
      have HYL : Hid (Below w.heap.size w wl) := HB.out.trans (y5.mono HB.out.size)
      clear hw5 hzk hUr hor hLb y5
      go_upto_region 5 with fail
      rw [show wr.alloc (.cells #[.int .i64 uid, .slice xa ff.length xc, .int .i64 dy, .string ⟨tx.toArray⟩] 51) = wl from HW5.out, show wr.heap.size = Lb from HLB.out]
      clear c0 c1 c2 c3
      obtain ⟨fn, hfn⟩ : ∃ fn, ff.length = fn := ⟨_, rfl⟩
      obtain ⟨ldy, hldy⟩ : ∃ v, Value.int .i64 dy = v := ⟨_, rfl⟩
      obtain ⟨ltx, hltx⟩ : ∃ v, Value.string ⟨tx.toArray⟩ = v := ⟨_, rfl⟩
      obtain ⟨cs, hcs⟩ : ∃ cs, cellsL (vwL (zs.take m)) = cs := ⟨_, rfl⟩
      have hU := hU5
      have hL := x5
      have hown := o5
      rw [hcs] at hown
      rw [hfn, hldy, hltx] at hL
      have HFN := Lib.hid hfn; have HCS := Lib.hid hcs
      clear hfn hldy hltx hcs hU5 x5 o5
      have hUd : wl.drew.heap[U]? = some (.cells #[vv] 49 (0, 0)) := hU
      have hLd : wl.drew.heap[Lb]? = some (.cells #[.int .i64 uid, .slice xa fn xc, ldy, ltx] 51 (0, 0)) := hL
      have hod := hown.drew
      have hbd : w.heap.size ≤ wl.drew.heap.size := hbase
      have kd : Below wl.heap.size wl wl.drew := (Below.refl _ wl).drew
      have hS0 : (fun W : World => W.cell? ⟨Lb, 0, none⟩ = some (.int .i64 uid) ∧ W.cell? ⟨Lb, 1, none⟩ = some (.slice xa fn xc)) wl.drew := ⟨(four_cells hLd).1, (four_cells hLd).2.1⟩
      have hS1 : (fun W : World => W.cell? ⟨U, 0, none⟩ = some vv) wl.drew := one_cell hUd
      obtain ⟨i1, hi1, hz10, hz11, hz12⟩ := info_parts let_info
      refine until_start (S := fun W => W.cell? ⟨U, 0, none⟩ = some vv) (S0 := fun W => W.cell? ⟨Lb, 0, none⟩ = some (.int .i64 uid) ∧ W.cell? ⟨Lb, 1, none⟩ = some (.slice xa fn xc)) (t := 14) (by kernel_rfl) ?_
      generalize wl.drew = wd at *
      refine until_take0 (i := 0) (v := ?v0q1) rfl (by kernel_rfl) (by kernel_rfl) (by kernel_rfl) (by rfl) (fun _ _ _ h => h) (Or.inl ⟨by rfl, ?y0q1⟩) hS0 (fun _ => hS1) ?r0q1
      case y0q1 => (intro W hSw; (try dsimp only at hSw); go_simp; try with_reducible rfl)
      try simp only [Act.put, List.setIfInBounds_toArray, List.set_cons_zero, List.set_cons_succ]
      refine until_take0 (i := 1) (v := ?v1q1) rfl (by kernel_rfl) (by kernel_rfl) (by kernel_rfl) (by rfl) (fun _ _ _ h => h) (Or.inl ⟨by rfl, ?y1q1⟩) hS0 (fun _ => hS1) ?r1q1
      case y1q1 => (intro W hSw; (try dsimp only at hSw); go_simp; try with_reducible rfl)
      try simp only [Act.put, List.setIfInBounds_toArray, List.set_cons_zero, List.set_cons_succ]
      refine until_take0 (i := 2) (v := ?v2q1) rfl (by kernel_rfl) (by kernel_rfl) (by kernel_rfl) (by rfl) (fun _ _ _ h => h) (Or.inl ⟨by rfl, ?y2q1⟩) hS0 (fun _ => hS1) ?r2q1
      case y2q1 => (intro W hSw; (try dsimp only at hSw); go_simp; try with_reducible rfl)
      try simp only [Act.put, List.setIfInBounds_toArray, List.set_cons_zero, List.set_cons_succ]
      refine until_take0 (i := 3) (v := ?v3q1) rfl (by kernel_rfl) (by kernel_rfl) (by kernel_rfl) (by rfl) (fun _ _ _ h => h) (Or.inl ⟨by rfl, ?y3q1⟩) hS0 (fun _ => hS1) ?r3q1
      case y3q1 => (intro W hSw; (try dsimp only at hSw); go_simp; try with_reducible rfl)
      try simp only [Act.put, List.setIfInBounds_toArray, List.set_cons_zero, List.set_cons_succ]
      refine until_take (i := 4) (v := ?v4q1) rfl (by kernel_rfl) (by kernel_rfl) (by kernel_rfl) (by kernel_rfl) (fun _ _ _ h => h) (Or.inl ⟨by rfl, ?y4q1⟩) hS0 hS1 ?r4q1
      case y4q1 => (intro W hSw; (try dsimp only at hSw); go_simp; try with_reducible rfl)
      try simp only [Act.put, List.setIfInBounds_toArray, List.set_cons_zero, List.set_cons_succ]
      refine until_take0 (i := 5) (v := ?v5q1) rfl (by kernel_rfl) (by kernel_rfl) (by kernel_rfl) (by rfl) (fun _ _ _ h => h) (Or.inl ⟨by rfl, ?y5q1⟩) hS0 (fun _ => hS1) ?r5q1
      case y5q1 => (intro W hSw; (try dsimp only at hSw); go_simp; try with_reducible rfl)
      try simp only [Act.put, List.setIfInBounds_toArray, List.set_cons_zero, List.set_cons_succ]
      refine until_take0 (i := 6) (v := ?v6q1) rfl (by kernel_rfl) (by kernel_rfl) (by kernel_rfl) (by rfl) (fun _ _ _ h => h) (Or.inl ⟨by rfl, ?y6q1⟩) hS0 (fun _ => hS1) ?r6q1
      case y6q1 => (intro W hSw; (try dsimp only at hSw); go_simp; try with_reducible rfl)
      try simp only [Act.put, List.setIfInBounds_toArray, List.set_cons_zero, List.set_cons_succ]
      refine until_take0 (i := 7) (v := ?v7q1) rfl (by kernel_rfl) (by kernel_rfl) (by kernel_rfl) (by rfl) (fun _ _ _ h => h) (Or.inl ⟨by rfl, ?y7q1⟩) hS0 (fun _ => hS1) ?r7q1
      case y7q1 => (intro W hSw; (try dsimp only at hSw); go_simp; try with_reducible rfl)
      try simp only [Act.put, List.setIfInBounds_toArray, List.set_cons_zero, List.set_cons_succ]
      refine until_take0 (i := 8) (v := ?v8q1) rfl (by kernel_rfl) (by kernel_rfl) (by kernel_rfl) (by rfl) (fun _ _ _ h => h) (Or.inl ⟨by rfl, ?y8q1⟩) hS0 (fun _ => hS1) ?r8q1
      case y8q1 => (intro W hSw; (try dsimp only at hSw); go_simp; try with_reducible rfl)
      try simp only [Act.put, List.setIfInBounds_toArray, List.set_cons_zero, List.set_cons_succ]
      refine until_take0 (i := 9) (v := ?v9q1) rfl (by kernel_rfl) (by kernel_rfl) (by kernel_rfl) (by rfl) (fun _ _ _ h => h) (Or.inl ⟨by rfl, ?y9q1⟩) hS0 (fun _ => hS1) ?r9q1
      case y9q1 => (intro W hSw; (try dsimp only at hSw); go_simp; try with_reducible rfl)
      try simp only [Act.put, List.setIfInBounds_toArray, List.set_cons_zero, List.set_cons_succ]
      have hUa := alloc_at (o := (.cells #[.int .i64 uid, .slice xa fn xc, .int .i64 0, .string ⟨#[]⟩] 51)) hUd
      have hLa := alloc_at (o := (.cells #[.int .i64 uid, .slice xa fn xc, .int .i64 0, .string ⟨#[]⟩] 51)) hLd
      have hoa := hod.alloc (.cells #[.int .i64 uid, .slice xa fn xc, .int .i64 0, .string ⟨#[]⟩] 51)
      have hsa := alloc_size wd (.cells #[.int .i64 uid, .slice xa fn xc, .int .i64 0, .string ⟨#[]⟩] 51)
      have hba : w.heap.size ≤ (wd.alloc (.cells #[.int .i64 uid, .slice xa fn xc, .int .i64 0, .string ⟨#[]⟩] 51)).heap.size := by rw [hsa]; omega
      have hNw : ∀ j u, (cells1 ((mkL (uid, ff) : Let), Value.slice xa fn xc))[j]? = some u → (wd.alloc (.cells #[.int .i64 uid, .slice xa fn xc, .int .i64 0, .string ⟨#[]⟩] 51)).cell? ((⟨wd.heap.size, 0, none⟩ : Addr).add j) = some u := World.news_of_block (World.heap_alloc_new wd (.cells #[.int .i64 uid, .slice xa fn xc, .int .i64 0, .string ⟨#[]⟩] 51))
      have HUA := Lib.hid hUa; have HLA := Lib.hid hLa; have HOA := Lib.hid hoa; have HSA := Lib.hid hsa; have HNW := Lib.hid hNw; have HOD := Lib.hid hod; have HUD := Lib.hid hUd; have HLD := Lib.hid hLd
      clear hUa hLa hoa hsa hNw hod hUd hLd hS0 hS1
      refine until_step (i := 10) (by kernel_rfl) rfl (fun K hK => ?_)
      go_simp
      refine hK.out _ _ ⟨(four_cells HLA.out).1, (four_cells HLA.out).2.1⟩ (fun _ _ => one_cell HUA.out) ?_
      clear hK K
      try simp only [Act.put, List.setIfInBounds_toArray, List.set_cons_zero, List.set_cons_succ]
      refine until_step (i := 11) (by kernel_rfl) rfl (fun K hK => ?_)
      refine step_append_lies _ (by rfl) (.tmp 19) (.tmp 25) 22 (by rfl) w.heap.size 51 i1 _ 4 56 Tryz.underlying22 hi1 hz10 hz11 hz12 let_z (by decide) vv m cs (by rfl) HOA.out ⟨wd.heap.size, 0, none⟩ 1 1 (cells1 ((mkL (uid, ff) : Let), Value.slice xa fn xc)) (by rfl) (by rfl) HNW.out (by intro u hu; simp only [cells1, List.mem_cons, List.not_mem_nil, or_false] at hu; rcases hu with rfl | rfl | rfl | rfl <;> rfl) (by decide) (by unfold maxLen; omega) (by omega) hba (wd.heap.size + 1) HSA.out ?_
      intro p4 c4 w4 ho4 hg4 hp4 hp4l
      have hU4 := grown_keeps HUD.out (by intro c fz h; cases h) HOD.out hg4
      have hL4 : w4.cell? ⟨Lb, 0, none⟩ = some (.int .i64 uid) ∧ w4.cell? ⟨Lb, 1, none⟩ = some (.slice xa fn xc) := by
        have hlt : Lb < (wd.alloc (.cells #[.int .i64 uid, .slice xa fn xc, .int .i64 0, .string ⟨#[]⟩] 51)).heap.size := (Array.getElem?_eq_some_iff.1 HLA.out).1
        exact ⟨(hg4.cell_far _ hlt HNL.out).trans (four_cells HLA.out).1, (hg4.cell_far _ hlt HNL.out).trans (four_cells HLA.out).2.1⟩
      have kg : Kept (fun j => vv.ownBlock = some j) wd w4 := ((Kept.refl _ wd).alloc _).trans ((kept_grown hg4).mono (fun j _ h => h))
      have kg2 : Kept (fun j => vv.ownBlock = some j) wl w4 := (kept_below kd).trans kg
      have hsz4 : wd.heap.size + 1 ≤ w4.heap.size := by have := hg4.size; rw [HSA.out] at this; exact this
      have HU4 := Lib.hid hU4; have HL4 := Lib.hid hL4; have HO4 := Lib.hid ho4; have HKG := Lib.hid kg2; have HP4 := Lib.hid hp4; have HSZ4 := Lib.hid hsz4
      have f0 : w4.frozen? ⟨U, 0, none⟩ = false := Lib.frozen_of_heap hU4 0
      have d0 := one_cell hU4
      clear hU4 hL4 ho4 hg4 hp4 kg kg2 HNW HOA HUA HLA hba hsz4
      refine hK.out _ _ HL4.out (fun _ _ => d0) ?_
      clear hK K
      try simp only [Act.put, List.setIfInBounds_toArray, List.set_cons_zero, List.set_cons_succ]
      refine until_step (i := 12) (by kernel_rfl) rfl (fun K hK => ?_)
      go_simp
      refine hK.out _ _ HL4.out (fun _ _ => d0) ?_
      clear hK K
      try simp only [Act.put, List.setIfInBounds_toArray, List.set_cons_zero, List.set_cons_succ]
      refine until_step (i := 13) (by kernel_rfl) rfl (fun K hK => ?_)
      go_simp
      refine hK.out _ _ HL4.out (fun _ _ => d0) ?_
      clear hK K
      try simp only [Act.put, List.setIfInBounds_toArray, List.set_cons_zero, List.set_cons_succ]
      have hL5 : (w4.setCell ⟨U, 0, none⟩ (.slice (some ⟨p4, 0, none⟩) (m + 1) c4)).cell? ⟨Lb, 0, none⟩ = some (.int .i64 uid) ∧ (w4.setCell ⟨U, 0, none⟩ (.slice (some ⟨p4, 0, none⟩) (m + 1) c4)).cell? ⟨Lb, 1, none⟩ = some (.slice xa fn xc) := by
        have e := Below.heap_setCell w4 ⟨U, 0, none⟩ (.slice (some ⟨p4, 0, none⟩) (m + 1) c4) Lb (fun e => HUL.out e.symm)
        exact ⟨(World.cell?_of_block e).trans HL4.out.1, (World.cell?_of_block e).trans HL4.out.2⟩
      have HL5 := Lib.hid hL5
      clear hL5
      refine until_step (i := 14) (by kernel_rfl) rfl (fun K hK => ?_)
      go_simp
      refine hK.out _ _ HL5.out (fun h _ => absurd rfl h) ?_
      clear hK K
      try simp only [Act.put, List.setIfInBounds_toArray, List.set_cons_zero, List.set_cons_succ]
      refine until_done (by kernel_rfl) ?_ _
      have hy4 : Below w.heap.size w w4 := HYL.out.trans (HKG.out.below (by exact hbase) (fun j e => (hown.lt j e).1))
      have hb5 : Below w.heap.size w (w4.setCell ⟨U, 0, none⟩ (.slice (some ⟨p4, 0, none⟩) (m + 1) c4)) := hy4.setCell (by exact hUw) _
      have HU5 := Lib.hid (set1_0 (u := .slice (some ⟨p4, 0, none⟩) (m + 1) c4) HU4.out)
      have HO5 : Hid ((w4.setCell ⟨U, 0, none⟩ (.slice (some ⟨p4, 0, none⟩) (m + 1) c4)).ownsRow w.heap.size 51 4 (.slice (some ⟨p4, 0, none⟩) (m + 1) c4) (m + 1) (cellsL (vwL (zs.take (m + 1))))) := by
        show World.ownsRow _ _ _ _ _ _ _
        rw [HTK.out, cellsL_app, HCS.out, HFN.out]
        exact owns_setAny HO4.out HU4.out (by decide)
      have HB5 := Lib.hid hb5
      clear hy4 hb5 hown hU hL
      go_wp2_with fail
      go_roundg g'
      case measure => omega
      case rel => exact ⟨m + 1, _, by omega, by go_num, HU5.out, HO5.out, HB5⟩
    · have hm : m = zs.length := by omega
      subst hm
      rw [List.take_length] at hor
      have hUr' := hUr
      go_wp2_with fail
      go_ret
      refine ⟨U, vv, rfl, hUw, fun j e => (hor.lt j e).1, ⟨vwL zs, hUr', ?_, ?_, ?_⟩, HB.out⟩
      · have : (vwL zs).length = zs.length := List.length_map ..
        rw [this]
        exact owns_less hor hN
      · rw [← HZ.out, List.map_map, List.map_map]
        unfold vwL
        rw [List.map_map]; rfl
      · intro z hz
        unfold vwL at hz
        obtain ⟨y, hy, rfl⟩ := List.mem_map.1 hz
        exact ⟨(zrow_flags HX.out.1 hy).below HB.out, (HX.out.2.2 y hy).below HB.out⟩
end Go.Proofs.YteclajckkjocnaaGreatDoor
namespace Go.Proofs.YteclajckkjocnaaGreatDoor
open Go.RowKit Go.Shelf Go.Sort
set_option linter.unusedSimpArgs false
set_option linter.unusedSimpArgs false
/-- all but one block is as it was; there, too, every text, and its kind -/
structure OnlySl (o : Option Nat) (w w' : World) : Prop where
  k : Kept (fun j => o = some j) w w'
  s : ∀ (b i : Nat) (s : ByteArray), w.cell? ⟨b, i, none⟩ = some (.string s) → w'.cell? ⟨b, i, none⟩ = some (.string s)
  l : ∀ b, Lettered w b → Lettered w' b
section
variable {o : Option Nat} {w w' w2 : World}
theorem OnlySl.refl (o : Option Nat) (w : World) : OnlySl o w w := ⟨Kept.refl _ _, fun _ _ _ h => h, fun _ h => h⟩
theorem OnlySl.trans (h : OnlySl o w w') (k : OnlySl o w' w2) : OnlySl o w w2 := ⟨h.k.trans k.k, fun b i s e => k.s b i s (h.s b i s e), fun b e => k.l b (h.l b e)⟩
theorem lettered_below {b : Nat} (h : Lettered w b) (hb : Below w.heap.size w w') : Lettered w' b := by
  obtain ⟨c, T, fz, hh, hT⟩ := h
  exact ⟨c, T, fz, below_same hb hh, hT⟩
theorem OnlySl.below (hb : Below w.heap.size w w') : OnlySl o w w' := ⟨kept_below hb, fun _b _i _s e => below_cell hb e, fun _b h => lettered_below h hb⟩
theorem lettered_set {b : Nat} {p : Addr} {u : Value} (h : Lettered w b) : Lettered (w.setCell p u) b := by
  obtain ⟨c, T, fz, hh, hT⟩ := h
  by_cases e : b = p.block
  · subst e
    refine ⟨if p.spot.isSome = true then c else c.setIfInBounds p.off u, T, fz, ?_, hT⟩
    simp only [World.setCell, Array.getElem?_modify, if_pos, hh]
    rfl
  · exact ⟨c, T, fz, (Below.heap_setCell w p u b e).trans hh, hT⟩
theorem OnlySl.set {p i : Nat} {v u : Value} (h : w.cell? ⟨p, i, none⟩ = some v) (hv : ∀ s, v ≠ .string s) : OnlySl (some p) w (w.setCell ⟨p, i, none⟩ u) := by
  refine ⟨(Kept.setB (Kept.refl (fun j => j = p) w) _).mono (fun j _ e => by rw [e]), fun b j s e => ?_, fun b => lettered_set⟩
  by_cases hb : b = p
  · subst hb
    by_cases hi : j = i
    · subst hi
      rw [h] at e
      exact absurd (Option.some.inj e) (hv s)
    · have hne : (⟨b, i, none⟩ : Addr) ≠ ⟨b, j, none⟩ := fun e' => hi (by cases e'; rfl)
      exact (by simpa [World.cell?_setCell_other, hne] using e)
  · exact (World.cell?_of_block (Below.heap_setCell w ⟨p, i, none⟩ u b hb)).trans e
theorem SRow.only {v : Value} {l : List (List UInt8)} (h : SRow w v l) (hk : OnlySl o w w') : SRow w' v l := by
  obtain ⟨ao, cap, h1, h2, h3, h4⟩ := h
  refine ⟨ao, cap, h1, h2, h3, fun j t hj => ?_⟩
  obtain ⟨b, off, e1, e2, e3⟩ := h4 j t hj
  exact ⟨b, off, e1, Nat.lt_of_lt_of_le e2 hk.k.size, hk.s _ _ _ e3⟩
theorem SafeV.only {N : Nat} {v : Value} (h : SafeV N w v) (hk : OnlySl o w w') : SafeV N w' v := fun a n c e hc => by
  obtain ⟨h1, h2⟩ := h a n c e hc
  exact ⟨Nat.lt_of_lt_of_le h1 hk.k.size, h2.imp id (hk.l _)⟩
theorem ZRow.only {v : Value} {zs : List (Let × Value)} (h : ZRow w v zs) (hk : OnlySl o w w') (hv : ∀ a n c, v = .slice (some a) n c → 0 < c → o ≠ some a.block) : ZRow w' v zs := by
  obtain ⟨ao, cap, rfl, h2, h3, h4, h5⟩ := h
  refine ⟨ao, cap, rfl, h2, h3, fun z hz => (h4 z hz).only hk, fun j u hj => ?_⟩
  obtain ⟨b, off, rfl, e2, c⟩ := h5 j u hj
  exact ⟨b, off, rfl, Nat.lt_of_lt_of_le e2 hk.k.size, (World.cell?_of_block (hk.k.block b e2 (hv ⟨b, off, none⟩ _ _ rfl (by have := (List.getElem?_eq_some_iff.1 hj).1; rw [cellsL_len] at this; omega)))).trans c⟩
theorem XRow.only {N : Nat} {v : Value} {zs : List (Let × Value)} (h : XRow N w v zs) (hk : OnlySl o w w') (hv : ∀ a n c, v = .slice (some a) n c → 0 < c → o ≠ some a.block) : XRow N w' v zs := ⟨h.1.only hk hv, h.2.1.only hk, fun z hz => (h.2.2 z hz).only hk⟩
theorem BoxS.only {N B : Nat} {b : BoxP} (h : BoxS N w B b) (hk : OnlySl o w w') (hB : o ≠ some B) (hv : ∀ lv, LvOf w B lv → ∀ a n c, lv = .slice (some a) n c → 0 < c → o ≠ some a.block) : BoxS N w' B b := by
  obtain ⟨lv, zs, h1, h2, h3⟩ := h
  exact ⟨lv, zs, hk.k.obj h1 hB, h2, h3.only hk (hv lv ⟨_, _, _, _, h1⟩)⟩
theorem RBoxS.only {N B : Nat} {b : BoxP} (h : RBoxS N w B b) (hk : OnlySl o w w') (hB : o ≠ some B) (hv : ∀ lv, LvOf w B lv → ∀ a n c, lv = .slice (some a) n c → 0 < c → o ≠ some a.block) : RBoxS N w' B b := by
  obtain ⟨lv, zs, h1, h2, h3⟩ := h
  exact ⟨lv, zs, hk.k.obj h1 hB, h2, h3.only hk (hv lv ⟨_, _, _, _, h1⟩)⟩
end
/-- what Know makes of a view -/
def knowF (us : Us) (uid : Int) (f : List (List UInt8)) : Us := us.map fun u => if u.1 = uid then (u.1, f) else u
def updZ (uid : Int) (f : List (List UInt8)) (fv : Value) (z : Let × Value) : Let × Value := if z.1.uid = uid then ({ z.1 with flags := f }, fv) else z
def knowZ (uid : Int) (f : List (List UInt8)) (fv : Value) (zs : List (Let × Value)) (k : Nat) : List (Let × Value) := (zs.take k).map (updZ uid f fv) ++ zs.drop k
theorem knowZ_len (uid : Int) (f : List (List UInt8)) (fv : Value) (zs : List (Let × Value)) (k : Nat) : (knowZ uid f fv zs k).length = zs.length := by
  unfold knowZ
  rw [List.length_append, List.length_map, List.length_take, List.length_drop]
  omega
theorem knowZ_at {uid : Int} {f : List (List UInt8)} {fv : Value} {zs : List (Let × Value)} {k : Nat} {z : Let × Value} (h : zs[k]? = some z) : (knowZ uid f fv zs k)[k]? = some z := by
  obtain ⟨hk, e⟩ := List.getElem?_eq_some_iff.1 h
  unfold knowZ
  rw [List.getElem?_append_right (by simp; omega)]
  simp [Nat.min_eq_left (Nat.le_of_lt hk), h]
theorem knowZ_set {uid : Int} {f : List (List UInt8)} {fv : Value} {zs : List (Let × Value)} {k : Nat} {z : Let × Value} (h : zs[k]? = some z) : knowZ uid f fv zs (k + 1) = (knowZ uid f fv zs k).set k (updZ uid f fv z) := by
  obtain ⟨hk, e⟩ := List.getElem?_eq_some_iff.1 h
  have hl : ((zs.take k).map (updZ uid f fv)).length = k := by rw [List.length_map, List.length_take]; omega
  unfold knowZ
  rw [List.take_add_one, h, List.drop_eq_getElem_cons hk, e, List.map_append, List.set_append_right _ _ (by omega), hl, Nat.sub_self]
  simp
theorem knowZ_same {uid : Int} {f : List (List UInt8)} {fv : Value} {zs : List (Let × Value)} {k : Nat} {z : Let × Value} (h : zs[k]? = some z) (hz : ¬ z.1.uid = uid) : knowZ uid f fv zs (k + 1) = knowZ uid f fv zs k := by
  obtain ⟨hk, e⟩ := List.getElem?_eq_some_iff.1 h
  unfold knowZ
  rw [List.take_add_one, h, List.drop_eq_getElem_cons hk, e, List.map_append]
  simp [updZ, hz]
theorem knowZ_fst {uid : Int} {f : List (List UInt8)} {fv : Value} {zs : List (Let × Value)} {us : Us} (h : zs.map (·.1) = us.map mkL) : (zs.map (updZ uid f fv)).map (·.1) = (knowF us uid f).map mkL := by
  unfold knowF
  rw [List.map_map, List.map_map]
  induction zs generalizing us with
  | nil => cases us with
    | nil => rfl
    | cons u r => cases h
  | cons z r ih => cases us with
    | nil => cases h
    | cons u s =>
      obtain ⟨h1, h2⟩ := List.cons.inj h
      show _ :: _ = _ :: _
      rw [ih h2]
      congr 1
      have h1' : z.1 = mkL u := h1
      show (updZ uid f fv z).1 = mkL (if u.1 = uid then (u.1, f) else u)
      unfold updZ
      rw [h1']
      show (if u.1 = uid then _ else _ : Let × Value).1 = _
      split
      · rfl
      · exact h1'
set_option maxRecDepth 100000 in
set_option maxHeartbeats 4000000 in
theorem rknow_any (N U : Nat) (lv : Value) (us : Us) (uid : Int) (f : List (List UInt8)) (fv : Value) (w : World) (hv : RVS N w U lv us) (hf : SRow w fv f) (hfs : SafeV N w fv) (hl : us.length ≤ 100000) :
    Calls Tryz.prog 36 #[.pointer (some ⟨U, 0, none⟩), .int .i64 uid, fv] w fun e w' => e = .returned (.tuple #[]) ∧ RVS N w' U lv (knowF us uid f) ∧ OnlySl lv.ownBlock w w' := by
  obtain ⟨zs, hU, ho, hzs, hr⟩ := hv
  have hzl : zs.length ≤ 100000 := by have := congrArg List.length hzs; rw [List.length_map, List.length_map] at this; omega
  have hne : lv.ownBlock ≠ some U := fun e => by
    rcases ho.2 with ⟨rfl, _⟩ | ⟨g, c, cur, rfl, _, hh, _⟩
    · cases e
    · cases e; rw [hU] at hh; cases hh
  obtain ⟨ao, cap, hlv⟩ := owns_val ho
  obtain ⟨fa, fc, hfv, _⟩ := id hf
  have d0 := one_cell hU
  have HU := Lib.hid hU; have HO := Lib.hid ho; have HZ := Lib.hid hzs; have HR := Lib.hid hr; have HNE := Lib.hid hne; have HF := Lib.hid hf; have HFS := Lib.hid hfs
  clear hU ho hzs hr hne hf hfs
  obtain ⟨n, hn⟩ : ∃ n, zs.length = n := ⟨_, rfl⟩
  have HN := Lib.hid hn
  have hzn : n ≤ 100000 := by omega
  rw [hn] at hlv
  rw [hlv] at d0
  clear hn hzl hl
  go_enter Tryz.func36, Tryz.ntmps36
  go_wp2_with fail
  go_loopg [12] n (fun g s12 wr => ∃ k : Nat, k + g = n ∧ s12 = .int .i64 (k : Int) ∧ Hid (wr.ownsRow N 51 4 lv n (cellsL (knowZ uid f fv zs k))) ∧ Hid (OnlySl lv.ownBlock w wr))
  case atStart => exact ⟨0, by omega, rfl, Lib.hid (by rw [← HN.out]; exact HO.out), Lib.hid (OnlySl.refl _ _)⟩
  case round =>
    obtain ⟨k, hk, rfl, HOR, HK⟩ := hrel
    clear d0
    have hUr := HK.out.k.obj HU.out HNE.out
    have d0 := one_cell hUr
    by_cases hlt : k < n
    · obtain ⟨g', rfl⟩ : ∃ g', gk = g' + 1 := ⟨gk - 1, by omega⟩
      obtain ⟨z, hzk⟩ : ∃ z, zs[k]? = some z := ⟨zs[k]'(by have := HN.out; omega), List.getElem?_eq_getElem (by have := HN.out; omega)⟩
      obtain ⟨p, q, hpq⟩ := own_some HOR.out (by omega)
      rw [hpq] at hlv
      cases hlv
      have hkz := knowZ_at (uid := uid) (f := f) (fv := fv) hzk
      have hklen := knowZ_len uid f fv zs k
      have hor := HOR.out
      rw [hpq] at hor d0
      have e0 : wr.cell? ⟨p, k * 4, none⟩ = some (.int .i64 z.1.uid) := by
        have := hor.cellAt (k * 4) (by omega)
        rw [this]
        have := cellsL_get (knowZ uid f fv zs k) k 0 (by omega)
        rw [hkz, Nat.add_zero] at this
        rw [this]; rfl
      have e1 : wr.cell? ⟨p, k * 4 + 1, none⟩ = some z.2 := by
        rw [hor.cellAt (k * 4 + 1) (by omega), cellsL_get _ _ _ (by omega), hkz]; rfl
      have f1 : wr.frozen? ⟨p, k * 4 + 1, none⟩ = false := hor.frozenAt _
      have hltz : (k : Int) < (n : Int) := by omega
      by_cases he : z.1.uid = uid
      · obtain ⟨za, zc, hz3, _⟩ := (HR.out z (List.mem_of_getElem? hzk)).1
        have n5 : (z.1.uid == uid) = true := by rw [beq_iff_eq]; exact he
        have hz2 : ∀ s, z.2 ≠ .string s := fun s e => by
          obtain ⟨a, c, e2, _⟩ := (HR.out z (List.mem_of_getElem? hzk)).1
          rw [e2] at e; cases e
        have HNX : Hid (OnlySl lv.ownBlock w (wr.setCell ⟨p, k * 4 + 1, none⟩ fv)) := by
          have := OnlySl.set (u := fv) e1 hz2
          rw [hpq] at HK ⊢
          exact HK.out.trans this
        have HOX : Hid ((wr.setCell ⟨p, k * 4 + 1, none⟩ fv).ownsRow N 51 4 lv n (cellsL (knowZ uid f fv zs (k + 1)))) := by
          have h5 := (hor.stored (k * 4 + 1) fv).1
          rw [cellsL_set { z.1 with flags := f } fv _ k z hkz rfl rfl rfl] at h5
          rw [hpq, knowZ_set hzk]
          unfold updZ
          rw [if_pos he]
          exact h5
        subst he
        rw [hz3] at e1
        subst hfv
        clear hor hkz hzk hz2 hpq hz3
        go_wp2_with fail
        go_roundg g'
        case measure => omega
        case rel => exact ⟨k + 1, by omega, by go_num, HOX, HNX⟩
      · have n5 : (z.1.uid == uid) = false := by rw [beq_eq_false_iff_ne]; exact he
        have HOX : Hid (wr.ownsRow N 51 4 lv n (cellsL (knowZ uid f fv zs (k + 1)))) := by
          rw [knowZ_same hzk he]; exact HOR
        clear hor hkz hzk hpq
        go_wp2_with fail
        go_roundg g'
        case measure => omega
        case rel => exact ⟨k + 1, by omega, by go_num, HOX, HK⟩
    · have hkn : k = n := by omega
      subst hkn
      have hall : knowZ uid f fv zs k = zs.map (updZ uid f fv) := by
        unfold knowZ
        rw [← HN.out, List.take_length, List.drop_length, List.append_nil]
      have hRES : Hid (RVS N wr U lv (knowF us uid f)) := by
        refine ⟨zs.map (updZ uid f fv), hUr, ?_, knowZ_fst HZ.out, fun z hz => ?_⟩
        · rw [List.length_map, HN.out, ← hall]; exact HOR.out
        · obtain ⟨y, hy, rfl⟩ := List.mem_map.1 hz
          unfold updZ
          split
          · exact ⟨HF.out.only HK.out, HFS.out.only HK.out⟩
          · exact ⟨(HR.out y hy).1.only HK.out, (HR.out y hy).2.only HK.out⟩
      go_wp2_with fail
      go_end0
      exact ⟨rfl, hRES.out, HK.out⟩
end Go.Proofs.YteclajckkjocnaaGreatDoor
namespace Go.Proofs.YteclajckkjocnaaGreatDoor
open Go.RowKit Go.Shelf Go.Sort
set_option linter.unusedSimpArgs false
set_option linter.unusedSimpArgs false
set_option maxRecDepth 100000 in
set_option maxHeartbeats 4000000 in
theorem indexI_any (B : Nat) (v : Value) (l : List Int) (uid : Int) (w : World) (hv : w.ownsRow B 3 1 v l.length (l.map (Value.int .i64))) (hl : l.length ≤ 1000000) :
    Calls Tryz.prog 61 #[v, .int .i64 uid] w fun e w' => w = w' ∧ ((e = .returned (.int .i64 (-1)) ∧ uid ∉ l) ∨ ∃ k : Nat, e = .returned (.int .i64 (k : Int)) ∧ l[k]? = some uid) := by
  obtain ⟨ao, cap, hvv⟩ := owns_val hv
  have HV := Lib.hid hv
  obtain ⟨n, hn⟩ : ∃ n, l.length = n := ⟨_, rfl⟩
  rw [hn] at hvv
  have HN := Lib.hid hn
  have hzn : n ≤ 1000000 := by omega
  clear hv hn hl
  subst hvv
  go_enter Tryz.func61, Tryz.ntmps61
  go_wp2_with fail
  go_loopg [8] n (fun g s8 wr => ∃ k : Nat, k + g = n ∧ s8 = .int .i64 (k : Int) ∧ w = wr ∧ Hid (uid ∉ l.take k))
  case atStart => exact ⟨0, by omega, rfl, rfl, Lib.hid (by simp)⟩
  case round =>
    obtain ⟨k, hk, rfl, rfl, HK⟩ := hrel
    by_cases hlt : k < n
    · obtain ⟨g', rfl⟩ : ∃ g', gk = g' + 1 := ⟨gk - 1, by omega⟩
      have hkl : k < l.length := by have := HN.out; omega
      obtain ⟨x, hx⟩ : ∃ x, l[k]? = some x := ⟨l[k], List.getElem?_eq_getElem hkl⟩
      have hvo := HV.out
      rw [HN.out] at hvo
      obtain ⟨p, q, hpq⟩ := own_some hvo (by omega)
      cases hpq
      have e0 : w.cell? ⟨p, k, none⟩ = some (.int .i64 x) := by
        rw [hvo.cellAt k (by omega), List.getElem?_map, hx]; rfl
      have hltz : (k : Int) < (n : Int) := by omega
      have HX := Lib.hid hx
      by_cases he : uid = x
      · subst he
        clear hvo hx
        go_wp2_with fail
        go_ret
        exact ⟨rfl, Or.inr ⟨k, rfl, HX.out⟩⟩
      · have n5 : (uid == x) = false := by rw [beq_eq_false_iff_ne]; exact he
        have HK2 : Hid (uid ∉ l.take (k + 1)) := by
          show ¬ _
          rw [List.take_add_one, hx, List.mem_append]
          intro h
          rcases h with h | h
          · exact HK.out h
          · exact he (by simpa using h)
        clear hvo hx
        go_wp2_with fail
        go_roundg g'
        case measure => omega
        case rel => exact ⟨k + 1, by omega, by go_num, rfl, HK2⟩
    · have hno : Hid (uid ∉ l) := by
        show ¬ _
        have := HK.out
        rw [List.take_of_length_le (by have := HN.out; omega)] at this
        exact this
      go_wp2_with fail
      go_ret
      exact ⟨rfl, Or.inl ⟨rfl, hno.out⟩⟩
theorem know_none {us : Us} {uid : Int} {f : List (List UInt8)} (h : uid ∉ us.map (·.1)) : knowF us uid f = us := by
  unfold knowF
  refine (List.map_congr_left (fun u hu => ?_)).trans (List.map_id _)
  rw [if_neg (fun e : u.1 = uid => h (by rw [← e]; exact List.mem_map_of_mem hu))]
  rfl
theorem know_fst (us : Us) (uid : Int) (f : List (List UInt8)) : (knowF us uid f).map (·.1) = us.map (·.1) := by
  unfold knowF
  rw [List.map_map]
  refine List.map_congr_left (fun u _ => ?_)
  show (if u.1 = uid then (u.1, f) else u).1 = u.1
  split <;> rfl
theorem know_len (us : Us) (uid : Int) (f : List (List UInt8)) : (knowF us uid f).length = us.length := List.length_map ..
theorem know_snd {us : Us} {uid : Int} {f : List (List UInt8)} {k : Nat} (hd : (us.map (·.1)).Nodup) (hk : (us.map (·.1))[k]? = some uid) : (knowF us uid f).map (·.2) = (us.map (·.2)).set k f := by
  apply List.ext_getElem?
  intro i
  unfold knowF
  rw [List.getElem?_set, List.map_map, List.getElem?_map, List.length_map]
  have hkl : k < us.length := by have := (List.getElem?_eq_some_iff.1 hk).1; rwa [List.length_map] at this
  by_cases e : k = i
  · subst e
    rw [if_pos rfl, if_pos hkl]
    rw [List.getElem?_map] at hk
    obtain ⟨u, hu, he⟩ := Option.map_eq_some_iff.1 hk
    rw [hu]
    show some (if u.1 = uid then (u.1, f) else u).2 = _
    rw [if_pos he]
  · rw [if_neg e, List.getElem?_map]
    cases hu : us[i]? with
    | none => rfl
    | some u =>
      show some (if u.1 = uid then (u.1, f) else u).2 = some u.2
      rw [if_neg]
      intro he
      have hi : (us.map (·.1))[i]? = some uid := by rw [List.getElem?_map, hu]; exact congrArg some he
      have h1 := (List.getElem?_eq_some_iff.1 hk)
      have h2 := (List.getElem?_eq_some_iff.1 hi)
      obtain ⟨h1a, h1b⟩ := h1
      obtain ⟨h2a, h2b⟩ := h2
      exact e ((List.getElem_inj hd).1 (h1b.trans h2b.symm))
attribute [local go_sem ↓] Go.wp_at_zero Go.wp_at_succ
set_option maxRecDepth 100000 in
set_option maxHeartbeats 8000000 in
theorem bknow_any (N V : Nat) (uv fv : Value) (us : Us) (uid : Int) (f : List (List UInt8)) (flv : Value) (w : World) (hv : ViewS N w V uv fv us) (hf : SRow w flv f) (hfl : f.length ≤ 1000000) (hl : us.length ≤ 100000) (hd : (us.map (·.1)).Nodup) :
    Calls Tryz.prog 35 #[.pointer (some ⟨V, 0, none⟩), .int .i64 uid, flv] w fun e w' => e = .returned (.tuple #[]) ∧ ViewS N w' V uv fv (knowF us uid f) ∧ Kept (fun j => fv.ownBlock = some j) w w' := by
  have HVS := Lib.hid hv
  obtain ⟨gs, hV, hu, hg, hr⟩ := hv
  obtain ⟨d0, d1⟩ := two_cells hV
  have hll : (us.map (·.1)).length = us.length := List.length_map ..
  have cI := indexI_any N uv (us.map (·.1)) uid w (by rw [hll]; exact hu) (by omega)
  obtain ⟨ua, uc, huv⟩ := owns_val hu
  obtain ⟨fa0, fc0, hfv⟩ := owns_val hg
  subst huv hfv
  have HV := Lib.hid hV; have HU := Lib.hid hu; have HG := Lib.hid hg; have HR := Lib.hid hr; have HF := Lib.hid hf
  clear hV hu hg hr hf
  by_cases hin : uid ∈ us.map (·.1)
  · go_enter Tryz.func35, Tryz.ntmps35
    go_upto_region 2 with (go_at_call 61; go_loud ((with_reducible refine cI.mono ?_); rintro e w1 ⟨rfl, h1⟩; obtain ⟨k, rfl, hk⟩ : ∃ k : Nat, e = .returned (.int .i64 (k : Int)) ∧ (us.map (·.1))[k]? = some uid := h1.elim (fun h => absurd hin h.2) id; have hkl : k < us.length := (by have := (List.getElem?_eq_some_iff.1 hk).1; rwa [hll] at this)))
    have hklz : (k : Int) < (us.length : Int) := by omega
    obtain ⟨pf, qf, hpq⟩ := own_some HG.out (by omega)
    cases hpq
    have hVd : w.drew.heap[V]? = some (.cells #[.slice ua us.length uc, .slice (some ⟨pf, 0, none⟩) us.length fc0] 65 (0, 0)) := HV.out
    have kd : Below w.heap.size w w.drew := (Below.refl _ w).drew
    have hod := HG.out.drew
    have hS1 : (fun W : World => W.cell? ⟨V, 1, none⟩ = some (.slice (some ⟨pf, 0, none⟩) us.length fc0)) w.drew := d1
    refine until_start (S := fun W => W.cell? ⟨V, 1, none⟩ = some (.slice (some ⟨pf, 0, none⟩) us.length fc0)) (S0 := fun _ => True) (t := 8) (by kernel_rfl) ?_
    generalize w.drew = wd at *
    refine until_take0 (i := 0) (v := ?v0) rfl (by kernel_rfl) (by kernel_rfl) (by kernel_rfl) (by rfl) (fun _ _ _ h => h) (Or.inl ⟨by rfl, ?y0⟩) trivial (fun _ => hS1) ?r0
    case y0 => (intro W hSw; (try dsimp only at hSw); go_simp; try with_reducible rfl)
    try simp only [Act.put, List.setIfInBounds_toArray, List.set_cons_zero, List.set_cons_succ]
    refine until_take0 (i := 1) (v := ?v1) rfl (by kernel_rfl) (by kernel_rfl) (by kernel_rfl) (by rfl) (fun _ _ _ h => h) (Or.inl ⟨by rfl, ?y1⟩) trivial (fun _ => hS1) ?r1
    case y1 => (intro W hSw; (try dsimp only at hSw); go_simp; try with_reducible rfl)
    try simp only [Act.put, List.setIfInBounds_toArray, List.set_cons_zero, List.set_cons_succ]
    refine until_take0 (i := 2) (v := ?v2) rfl (by kernel_rfl) (by kernel_rfl) (by kernel_rfl) (by rfl) (fun _ _ _ h => h) (Or.inl ⟨by rfl, ?y2⟩) trivial (fun _ => hS1) ?r2
    case y2 => (intro W hSw; (try dsimp only at hSw); go_simp; try with_reducible rfl)
    try simp only [Act.put, List.setIfInBounds_toArray, List.set_cons_zero, List.set_cons_succ]
    refine until_take (i := 3) (v := ?v3) rfl (by kernel_rfl) (by kernel_rfl) (by kernel_rfl) (by kernel_rfl) (fun _ _ _ h => h) (Or.inl ⟨by rfl, ?y3⟩) trivial hS1 ?r3
    case y3 => (intro W hSw; (try dsimp only at hSw); go_simp; try with_reducible rfl)
    try simp only [Act.put, List.setIfInBounds_toArray, List.set_cons_zero, List.set_cons_succ]
    refine until_take0 (i := 4) (v := ?v4) rfl (by kernel_rfl) (by kernel_rfl) (by kernel_rfl) (by rfl) (fun _ _ _ h => h) (Or.inl ⟨by rfl, ?y4⟩) trivial (fun _ => hS1) ?r4
    case y4 => (intro W hSw; (try dsimp only at hSw); go_simp; try with_reducible rfl)
    try simp only [Act.put, List.setIfInBounds_toArray, List.set_cons_zero, List.set_cons_succ]
    refine until_take0 (i := 5) (v := ?v5) rfl (by kernel_rfl) (by kernel_rfl) (by kernel_rfl) (by rfl) (fun _ _ _ h => h) (Or.inl ⟨by rfl, ?y5⟩) trivial (fun _ => hS1) ?r5
    case y5 => (intro W hSw; (try dsimp only at hSw); go_simp; try with_reducible rfl)
    try simp only [Act.put, List.setIfInBounds_toArray, List.set_cons_zero, List.set_cons_succ]
    have hFd := HF.out.below kd
    have HOD := Lib.hid hod; have HVD := Lib.hid hVd; have HKD := Lib.hid kd
    clear hod hVd kd
    refine until_step (i := 6) (by kernel_rfl) rfl (fun K hK => ?_)
    go_simp
    refine (clone_any _ f wd hFd hfl).mono ?_
    rintro e w3 ⟨r, rfl, hor, h3⟩
    obtain ⟨ra, rc, rfl⟩ := owns_val hor
    have hV3 := below_same h3 HVD.out
    have hg3 := owns_below HOD.out h3
    have f1 : w3.frozen? ⟨pf, k, none⟩ = false := by
      have := hg3.frozenAt k
      exact this
    have e1 := hg3.cellAt k (by simpa using hkl)
    obtain ⟨g, hgk⟩ : ∃ g, gs[k]? = some g := by
      have := hg3.1
      rw [List.length_map] at this
      exact ⟨gs[k]'(by omega), List.getElem?_eq_getElem (by omega)⟩
    have e2 : w3.cell? ⟨pf, k, none⟩ = some (encSl g) := by rw [e1, List.getElem?_map, hgk]; rfl
    have hsr := srow_owns hor
    have hsv : SafeV N w3 (.slice ra f.length rc) := safe_tag (stag_owns hor)
    have hnV : V ≠ pf := by
      rcases hg3.2 with ⟨e, _⟩ | ⟨g', c', cur, e, _, hh, _⟩
      · cases e
      · cases e; exact ne_of_obj hV3 hh (by intro e; cases e)
    have hd3 := (two_cells hV3).2
    have HV3 := Lib.hid hV3; have HG3 := Lib.hid hg3; have HSR := Lib.hid hsr; have HSV := Lib.hid hsv; have HH3 := Lib.hid h3
    clear hV3 hg3 hsr hsv e1 hgk hor h3 hFd
    go_wp2_with fail
    refine hK.out _ _ trivial (fun _ _ => hd3) ?_
    clear hK K
    try simp only [Act.put, List.setIfInBounds_toArray, List.set_cons_zero, List.set_cons_succ]
    refine until_step (i := 7) (by kernel_rfl) rfl (fun K hK => ?_)
    go_simp
    refine hK.out _ _ trivial (fun _ _ => hd3) ?_
    clear hK K
    try simp only [Act.put, List.setIfInBounds_toArray, List.set_cons_zero, List.set_cons_succ]
    refine until_step (i := 8) (by kernel_rfl) rfl (fun K hK => ?_)
    go_simp
    refine hK.out _ _ trivial (fun h => absurd rfl h) ?_
    clear hK K
    try simp only [Act.put, List.setIfInBounds_toArray, List.set_cons_zero, List.set_cons_succ]
    refine until_done (by kernel_rfl) ?_ _
    have hRES : Hid (ViewS N (w3.setCell ⟨pf, k, none⟩ (.slice ra f.length rc)) V (.slice ua us.length uc) (.slice (some ⟨pf, 0, none⟩) us.length fc0) (knowF us uid f) ∧ Kept (fun j => (Value.slice (some ⟨pf, 0, none⟩) us.length fc0).ownBlock = some j) w (w3.setCell ⟨pf, k, none⟩ (.slice ra f.length rc))) := by
      obtain ⟨cur, hh⟩ : ∃ cur, w3.heap[pf]? = some (.cells cur 35 (0, 0)) := by
        rcases HG3.out.2 with ⟨e, _⟩ | ⟨g, c, cur, e, _, hh, _⟩
        · cases e
        · cases e; exact ⟨cur, hh⟩
      have hNp : N ≤ pf := (HG3.out.lt pf rfl).1
      have hkp : Kept (fun j => j = pf) w3 (w3.setCell ⟨pf, k, none⟩ (.slice ra f.length rc)) := Kept.setB (Kept.refl _ w3) _
      have hs : Spares N w3 (fun j => j = pf) := spares_at hh hNp (by decide) (by decide)
      have hst := (HG3.out.stored k (encSl (ra, f.length, rc))).1
      rw [← List.map_set] at hst
      have b13 : Below w.heap.size w w3 := HKD.out.trans (HH3.out.mono HKD.out.size)
      have hgl : gs.length = us.length := by have := HG3.out.1; rw [List.length_map] at this; omega
      refine ⟨⟨gs.set k (ra, f.length, rc), setCell_same HV3.out hnV, ?_, ?_, ?_⟩, ?_⟩
      · rw [know_fst, know_len]
        exact owns_setAny (owns_below HU.out b13) hh (by decide)
      · rw [know_len]
        exact hst
      · rw [know_snd hd hk]
        intro i f' hf'
        rw [List.getElem?_set] at hf' ⊢
        split at hf'
        · rename_i hik
          subst hik
          rw [if_pos rfl, if_pos (by omega)]
          rw [if_pos (by rw [List.length_map]; omega)] at hf'
          cases hf'
          exact ⟨_, rfl, HSR.out.kept HSV.out hkp hs, HSV.out.kept hkp hs⟩
        · rename_i hik
          rw [if_neg hik]
          have hR3 : Reads N w3 gs (us.map (·.2)) := HR.out.kept (kept_below (S := fun _ => False) b13) (spares_none N w)
          exact (hR3.kept hkp hs) i f' hf'
      · exact (kept_below b13).trans (hkp.mono (fun j _ e => by rw [e]; rfl))
    go_wp2_with fail
    go_end0
    exact ⟨rfl, hRES.out⟩
  · go_enter Tryz.func35, Tryz.ntmps35
    go_wp2_with (go_at_call 61; go_loud ((with_reducible refine cI.mono ?_); rintro e w1 ⟨rfl, h1⟩; obtain rfl : e = .returned (.int .i64 (-1)) := h1.elim (fun h => h.1) (fun ⟨k, _, hk⟩ => absurd (List.mem_of_getElem? hk) hin)))
    go_end0
    rw [know_none hin]
    exact ⟨rfl, HVS.out, Kept.refl _ _⟩
end Go.Proofs.YteclajckkjocnaaGreatDoor
