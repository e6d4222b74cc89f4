/- The walk over the reference's Flag. No condition beyond those it names. The walk over the reference's Flag where flags are put to those there are; Flag whatever comes of it. No condition beyond those each names. The reference's Flag, whatever comes of it. No condition beyond those it names. -/
import Derived.Test.YteclajckkjocnaaGreatDoorPkFlagF
import Derived.Test.YteclajckkjocnaaGreatDoorPkAppL
import Derived.Test.YteclajckkjocnaaGreatDoorPkRBoxB
namespace Go.Proofs.YteclajckkjocnaaGreatDoor
open Go.RowKit Go.Shelf Go.Sort
set_option linter.unusedSimpArgs false
set_option linter.unusedSimpArgs false
/-- what is wrong, as the reference tells it -/
def errN : Option Nat → Int
  | none => 0
  | some n => (n : Int)
/-- a letter's flags are set anew in a copy of the row -/
theorem rflag_end {N C : Nat} {b : BoxP} {lv : Value} {zs : List (Let × Value)} {k : Nat} {z : Let × Value} {g : List (List UInt8)} {gv : Value} {w W w4 : World} {p2 c2 base : Nat}
    (hC : w.heap[C]? = some (.cells #[.int .i64 b.valid, .int .i64 b.next, lv] 26 (0, 0))) (hN : N ≤ C) (hzs : zs.map (·.1) = b.ls) (hx : XRow N w lv zs) (hk : zs[k]? = some z) (y : Below w.heap.size w W) (hT : TRow W gv g) (hbase : W.heap.size ≤ base)
    (ho : w4.ownsRow base 51 4 (.slice (some ⟨p2, 0, none⟩) zs.length c2) zs.length (cellsL zs)) (y4 : Below W.heap.size W w4) :
    w4.cell? ⟨p2, k * 4 + 1, none⟩ = some z.2 ∧ w4.frozen? ⟨p2, k * 4 + 1, none⟩ = false ∧ (w4.setCell ⟨p2, k * 4 + 1, none⟩ gv).frozen? ⟨C, 2, none⟩ = false ∧ (w4.setCell ⟨p2, k * 4 + 1, none⟩ gv).cell? ⟨C, 2, none⟩ = some lv ∧
      Hid (RBoxS N ((w4.setCell ⟨p2, k * 4 + 1, none⟩ gv).setCell ⟨C, 2, none⟩ (.slice (some ⟨p2, 0, none⟩) zs.length c2)) C { b with ls := setFl b.ls k g } ∧ Kept (fun k => k = C) w ((w4.setCell ⟨p2, k * 4 + 1, none⟩ gv).setCell ⟨C, 2, none⟩ (.slice (some ⟨p2, 0, none⟩) zs.length c2)) ∧
        FreshL w ((w4.setCell ⟨p2, k * 4 + 1, none⟩ gv).setCell ⟨C, 2, none⟩ (.slice (some ⟨p2, 0, none⟩) zs.length c2)) C) := by
  have hCl : C < w.heap.size := (Array.getElem?_eq_some_iff.1 hC).1
  have y04 : Below w.heap.size w w4 := y.trans (y4.mono y.size)
  have hC4 := (y04.block C hCl).trans hC
  have hp2 := ho.lt p2 rfl
  have hys := y.size
  have hne : p2 ≠ C := by omega
  have hkl : k < zs.length := (List.getElem?_eq_some_iff.1 hk).1
  have hk4 : k * 4 + 1 < zs.length * 4 := by omega
  have hC5 : (w4.setCell ⟨p2, k * 4 + 1, none⟩ gv).heap[C]? = some (.cells #[.int .i64 b.valid, .int .i64 b.next, lv] 26 (0, 0)) := (Below.heap_setCell w4 ⟨p2, k * 4 + 1, none⟩ gv C (fun e => hne e.symm)).trans hC4
  have ho5 := (ho.stored (k * 4 + 1) gv).1
  rw [cellsL_set { z.1 with flags := g } gv zs k z hk rfl rfl rfl] at ho5
  have ho6 : ((w4.setCell ⟨p2, k * 4 + 1, none⟩ gv).setCell ⟨C, 2, none⟩ (.slice (some ⟨p2, 0, none⟩) zs.length c2)).ownsRow base 51 4 (.slice (some ⟨p2, 0, none⟩) zs.length c2) zs.length (cellsL (zs.set k ({ z.1 with flags := g }, gv))) :=
    ho5.kept (row := some C) ⟨rfl, rfl, rfl, Nat.le_of_eq (set_size _ _ _).symm, fun k hk hs => Below.heap_setCell _ _ _ k (fun e => hs (by rw [e]))⟩ (Or.inr (fun e => hne (Option.some.inj e)))
  have hC6 := set3_2 (u := .slice (some ⟨p2, 0, none⟩) zs.length c2) hC5
  refine ⟨by rw [ho.cellAt _ hk4, cellsL_get _ _ _ (by omega), hk]; rfl, ho.frozenAt _, Lib.frozen_of_heap hC5 2, (three_cells hC5).2.2, Lib.hid ?_⟩
  have hK6 : Kept (fun k => k = C) w ((w4.setCell ⟨p2, k * 4 + 1, none⟩ gv).setCell ⟨C, 2, none⟩ (.slice (some ⟨p2, 0, none⟩) zs.length c2)) := Kept.setB ((kept_below y04).setNew (by show w.heap.size ≤ p2; omega) _) _
  have hK6W : Kept (fun k => k = C) W ((w4.setCell ⟨p2, k * 4 + 1, none⟩ gv).setCell ⟨C, 2, none⟩ (.slice (some ⟨p2, 0, none⟩) zs.length c2)) := Kept.setB ((kept_below y4).setNew (by show W.heap.size ≤ p2; omega) _) _
  have hS : Spares N w (fun k => k = C) := spares_at hC hN (by decide) (by decide)
  have hSW : Spares N W (fun k => k = C) := spares_at ((y.block C hCl).trans hC) hN (by decide) (by decide)
  have hget : ∀ q ∈ zs.set k ({ z.1 with flags := g }, gv), q ∈ zs ∨ q = ({ z.1 with flags := g }, gv) := fun q hq => List.mem_or_eq_of_mem_set hq
  have hlen : (zs.set k ({ z.1 with flags := g }, gv)).length = zs.length := List.length_set
  refine ⟨⟨_, zs.set k ({ z.1 with flags := g }, gv), hC6, ?_, zrow_owns (B := base) ?_ ?_, safe_owns ho6, ?_⟩, hK6, freshL_new hC6 (fun j hj => by have e : p2 = j := Option.some.inj hj; omega)⟩
  · rw [← hzs]; exact setFl_at zs k z gv hk
  · rw [hlen]; exact ho6
  · intro q hq
    rcases hget q hq with h' | rfl
    · exact (zrow_flags hx.1 h').kept (hx.2.2 q h') hK6 hS
    · exact hT.1.kept (safe_tag hT.2) hK6W hSW
  · intro q hq
    rcases hget q hq with h' | rfl
    · exact (hx.2.2 q h').kept hK6 hS
    · exact (safe_tag hT.2).kept hK6W hSW
set_option maxRecDepth 100000 in
set_option maxHeartbeats 8000000 in
theorem rflag_none (N C : Nat) (b : BoxP) (uid what : Int) (l : List (List UInt8)) (fv : Value) (w : World) (hb : RBoxS N w C b) (_hN : N ≤ C) (hll : b.ls.length ≤ 100000) (_hf : SRow w fv l) (_hl : Short l) (hk : findB b.ls uid = none) :
    Calls Tryz.prog 27 #[.pointer (some ⟨C, 0, none⟩), .int .i64 uid, .int .i64 what, fv] w fun e w' => e = .returned (.int .i64 7) ∧ Below w.heap.size w w' := by
  obtain ⟨lv, zs, hC, hzs, hx⟩ := hb
  have hzl : zs.length ≤ 100000 := by rw [← hzs, List.length_map] at hll; exact hll
  have cF := rfind_any N b.valid b.next lv zs uid w hx (by omega)
  rw [hzs] at cF
  have hCl : C < w.heap.size := (Array.getElem?_eq_some_iff.1 hC).1
  have d2 := (three_cells hC)
  obtain ⟨d0, d1, d2⟩ := d2
  rw [show findI b.ls uid = -1 by unfold findI; rw [hk]] at cF
  clear hk hzs hx
  go_enter Tryz.func27, Tryz.ntmps27
  go_wp2_with (go_at_call 13; go_loud (((with_reducible refine cF.mono ?_); rintro e w1 ⟨rfl, h⟩)))
  go_ret
  exact ⟨rfl, h⟩
set_option maxRecDepth 100000 in
set_option maxHeartbeats 8000000 in
theorem rflag_set (N C : Nat) (b : BoxP) (uid what : Int) (l : List (List UInt8)) (fv : Value) (w : World) (hb : RBoxS N w C b) (_hN : N ≤ C) (hll : b.ls.length ≤ 100000) (hf : SRow w fv l) (hl : Short l) (k n : Nat) (hk : findB b.ls uid = some k) (hs : setF l = .inl n) :
    Calls Tryz.prog 27 #[.pointer (some ⟨C, 0, none⟩), .int .i64 uid, .int .i64 what, fv] w fun e w' => e = .returned (.int .i64 (n : Int)) ∧ Below w.heap.size w w' := by
  obtain ⟨lv, zs, hC, hzs, hx⟩ := hb
  have hzl : zs.length ≤ 100000 := by rw [← hzs, List.length_map] at hll; exact hll
  have cF := rfind_any N b.valid b.next lv zs uid w hx (by omega)
  rw [hzs] at cF
  have hCl : C < w.heap.size := (Array.getElem?_eq_some_iff.1 hC).1
  have d2 := (three_cells hC)
  obtain ⟨d0, d1, d2⟩ := d2
  rw [show findI b.ls uid = (k : Int) by unfold findI; rw [hk]] at cF
  have cS := fun W (h : Below w.heap.size w W) => rset_bad hs fv W (hf.below h) hl
  have hn := rset_pos hs
  have q1 : ¬ ((n : Int) = 0) := by omega
  have q2 : ((n : Int) == 0) = false := by rw [beq_eq_false_iff_ne]; exact q1
  clear hk hzs hx hs hf
  go_enter Tryz.func27, Tryz.ntmps27
  go_wp2_with (first
    | (go_at_call 13; go_loud (((with_reducible refine cF.mono ?_); rintro e w1 ⟨rfl, h⟩)))
    | (go_at_call 18; go_loud (((with_reducible refine (cS _ h).mono ?_); rintro e w2 ⟨rfl, h2⟩; have y := h.trans (h2.mono h.size)))))
  go_ret
  exact ⟨rfl, y⟩
set_option maxRecDepth 100000 in
set_option maxHeartbeats 8000000 in
theorem rflag_arg (N C : Nat) (b : BoxP) (uid what : Int) (l : List (List UInt8)) (fv : Value) (w : World) (hb : RBoxS N w C b) (_hN : N ≤ C) (hll : b.ls.length ≤ 100000) (hf : SRow w fv l) (hl : Short l) (k : Nat) (x : Let) (f : List (List UInt8)) (hk : findB b.ls uid = some k) (hx2 : b.ls[k]? = some x) (hs : setF l = .inr f) (q0 : ¬ what = 0) (q1 : ¬ what = 1) (q2 : ¬ what = 2) :
    Calls Tryz.prog 27 #[.pointer (some ⟨C, 0, none⟩), .int .i64 uid, .int .i64 what, fv] w fun e w' => e = .returned (.int .i64 1) ∧ Below w.heap.size w w' := by
  obtain ⟨lv, zs, hC, hzs, hx⟩ := hb
  have hzl : zs.length ≤ 100000 := by rw [← hzs, List.length_map] at hll; exact hll
  have cF := rfind_any N b.valid b.next lv zs uid w hx (by omega)
  rw [hzs] at cF
  have hCl : C < w.heap.size := (Array.getElem?_eq_some_iff.1 hC).1
  have d2 := (three_cells hC)
  obtain ⟨d0, d1, d2⟩ := d2
  rw [show findI b.ls uid = (k : Int) by unfold findI; rw [hk]] at cF
  have cS := fun W (h : Below w.heap.size w W) => rset_good hs fv W (hf.below h) hl
  have hzk : ∃ z, zs[k]? = some z ∧ z.1 = x := by
    rw [← hzs, List.getElem?_map] at hx2
    obtain ⟨z, h1, h2⟩ := Option.map_eq_some_iff.1 hx2
    exact ⟨z, h1, h2⟩
  obtain ⟨z, hzk, rfl⟩ := hzk
  obtain ⟨p, off, xa, xc, cap, hlv, hz2, c0, c1, c2, c3⟩ := xrow_at hx hzk
  subst hlv
  have hkl : k < zs.length := (List.getElem?_eq_some_iff.1 hzk).1
  have hkz : (k : Int) < (zs.length : Int) := by omega
  have hp : p < w.heap.size := World.block_lt_of_cell? _ _ c1
  have hwas := zrow_flags hx.1 (List.mem_of_getElem? hzk)
  rw [hz2] at hwas
  have HC := Lib.hid hC
  have HZS := Lib.hid hzs
  have HX := Lib.hid hx
  have HZK := Lib.hid hzk
  have HWAS := Lib.hid hwas
  obtain ⟨⟨u, fl, dy, tx⟩, zv⟩ := z
  dsimp only at *
  subst hz2
  clear hk hzs hx hs hf hx2 hwas hzk hC
  have n0 : (what == 0) = false := by rw [beq_eq_false_iff_ne]; exact q0
  have n1 : (what == 1) = false := by rw [beq_eq_false_iff_ne]; exact q1
  have n2 : (what == 2) = false := by rw [beq_eq_false_iff_ne]; exact q2
  go_enter Tryz.func27, Tryz.ntmps27
  go_wp2_with (first
    | (go_at_call 13; go_loud (((with_reducible refine cF.mono ?_); rintro e w1 ⟨rfl, h⟩)))
    | (go_at_call 18; go_loud (((with_reducible refine (cS _ h).mono ?_); rintro e w2 ⟨sa, sc, rfl, hT, h2⟩; have y := h.trans (h2.mono h.size); clear d0 d1 d2; obtain ⟨d0, d1, d2⟩ := three_cells ((y.block C hCl).trans HC.out); have e1 := (y.cell (p := ⟨p, off + k * 4 + 1, none⟩) hp).trans c1))))
  go_ret
  exact ⟨rfl, y⟩
set_option maxRecDepth 100000 in
set_option maxHeartbeats 8000000 in
theorem rflag_put (N C : Nat) (b : BoxP) (uid : Int) (l : List (List UInt8)) (fv : Value) (w : World) (hb : RBoxS N w C b) (hN : N ≤ C) (hll : b.ls.length ≤ 100000) (hf : SRow w fv l) (hl : Short l) (hfs : ∀ x ∈ b.ls, x.flags.length ≤ 1000) (k : Nat) (x : Let) (f g : List (List UInt8)) (hk : findB b.ls uid = some k) (hx2 : b.ls[k]? = some x) (hs : setF l = .inr f) (hg : g = f) :
    Calls Tryz.prog 27 #[.pointer (some ⟨C, 0, none⟩), .int .i64 uid, .int .i64 0, fv] w fun e w' => e = .returned (.int .i64 (errN (if 12 < g.length then some 4 else none))) ∧ RBoxS N w' C (if 12 < g.length then b else { b with ls := setFl b.ls k g }) ∧ Kept (fun k => k = C) w w' ∧ FreshL w w' C := by
  obtain ⟨lv, zs, hC, hzs, hx⟩ := hb
  have hzl : zs.length ≤ 100000 := by rw [← hzs, List.length_map] at hll; exact hll
  have cF := rfind_any N b.valid b.next lv zs uid w hx (by omega)
  rw [hzs] at cF
  have hCl : C < w.heap.size := (Array.getElem?_eq_some_iff.1 hC).1
  have d2 := (three_cells hC)
  obtain ⟨d0, d1, d2⟩ := d2
  have hxl := hfs x (List.mem_of_getElem? hx2)
  have hfl12 := (set_ok hs).2.2
  rw [show findI b.ls uid = (k : Int) by unfold findI; rw [hk]] at cF
  have cS := fun W (h : Below w.heap.size w W) => rset_good hs fv W (hf.below h) hl
  have hzk : ∃ z, zs[k]? = some z ∧ z.1 = x := by
    rw [← hzs, List.getElem?_map] at hx2
    obtain ⟨z, h1, h2⟩ := Option.map_eq_some_iff.1 hx2
    exact ⟨z, h1, h2⟩
  obtain ⟨z, hzk, rfl⟩ := hzk
  obtain ⟨p, off, xa, xc, cap, hlv, hz2, c0, c1, c2, c3⟩ := xrow_at hx hzk
  subst hlv
  have hkl : k < zs.length := (List.getElem?_eq_some_iff.1 hzk).1
  have hkz : (k : Int) < (zs.length : Int) := by omega
  have hp : p < w.heap.size := World.block_lt_of_cell? _ _ c1
  have hwas := zrow_flags hx.1 (List.mem_of_getElem? hzk)
  rw [hz2] at hwas
  have HC := Lib.hid hC
  have HZS := Lib.hid hzs
  have HX := Lib.hid hx
  have HZK := Lib.hid hzk
  have HWAS := Lib.hid hwas
  obtain ⟨⟨u, fl, dy, tx⟩, zv⟩ := z
  dsimp only at *
  subst hz2
  clear hk hzs hx hs hf hx2 hwas hzk hC
  subst hg
  have HSTAY := Lib.hid (show ∀ W, Below w.heap.size w W → RBoxS N W C b ∧ Kept (fun k => k = C) w W ∧ FreshL w W C from fun W h => ⟨RBoxS.below ⟨_, zs, HC.out, HZS.out, HX.out⟩ h, kept_below h, freshL_same (h.block C hCl)⟩)
  by_cases h12 : 12 < g.length
  · exact absurd h12 (by omega)
  · have h12z : ¬ (12 : Int) < (g.length : Int) := by omega
    go_enter Tryz.func27, Tryz.ntmps27
    go_upto_region 17 with (first
      | (go_at_call 13; go_loud (((with_reducible refine cF.mono ?_); rintro e w1 ⟨rfl, h⟩)))
      | (go_at_call 18; go_loud (((with_reducible refine (cS _ h).mono ?_); rintro e w2 ⟨sa, sc, rfl, hT, h2⟩; have y := h.trans (h2.mono h.size); clear d0 d1 d2; obtain ⟨d0, d1, d2⟩ := three_cells ((y.block C hCl).trans HC.out); have e1 := (y.cell (p := ⟨p, off + k * 4 + 1, none⟩) hp).trans c1))))
    have hCW := (y.block C hCl).trans HC.out
    obtain ⟨b0, b1, b2⟩ := three_cells hCW
    have yE := (Below.refl w2.heap.size w2).alloc (Nat.le_refl _) (.cells #[] 51)
    have oE : (w2.alloc (.cells #[] 51)).ownsRow w2.heap.size 51 4 (.slice (some ⟨w2.heap.size, 0, none⟩) 0 0) ([] : List (Let × Value)).length (cellsL []) := World.ownsRow_lit w2 #[] 0 (Nat.le_refl _) (by decide) rfl
    have zE := ((HX.out.below y).below yE).1
    obtain ⟨e0, e1', e2⟩ := three_cells (below_same yE hCW)
    have hsE : w2.heap.size ≤ (w2.alloc (.cells #[] 51)).heap.size := yE.size
    go_wp2_with (at_builtin; go_must (refine wpList_appL rfl _ _ rfl w2.heap.size (.slice (some ⟨w2.heap.size, 0, none⟩) 0 0) [] _ rfl oE _ zs cap rfl zE ?hn hsE ?_))
    case hn => simp; omega
    intro v4 w4 o4 g4
    try simp only [List.nil_append] at o4
    have y4 : Below w2.heap.size w2 w4 := yE.grown g4 yE.size (fun j e => by cases e; exact Nat.le_refl _)
    obtain ⟨p2, c2', rfl⟩ : ∃ p2 c2', v4 = .slice (some ⟨p2, 0, none⟩) zs.length c2' := by
      rcases o4.2 with ⟨_, h0⟩ | ⟨g', cap', cur, e', _⟩
      · omega
      · exact ⟨g', cap', e'⟩
    obtain ⟨r1, r2, r3, r4, HP⟩ := rflag_end HC.out hN HZS.out HX.out HZK.out y hT.out (Nat.le_refl _) o4 y4
    clear o4 g4 oE zE
    go_wp2_with fail
    go_ret
    exact ⟨rfl, HP.out⟩
set_option maxRecDepth 100000 in
set_option maxHeartbeats 8000000 in
theorem rflag_less (N C : Nat) (b : BoxP) (uid : Int) (l : List (List UInt8)) (fv : Value) (w : World) (hb : RBoxS N w C b) (hN : N ≤ C) (hll : b.ls.length ≤ 100000) (hf : SRow w fv l) (hl : Short l) (hfs : ∀ x ∈ b.ls, x.flags.length ≤ 1000) (k : Nat) (x : Let) (f g : List (List UInt8)) (hk : findB b.ls uid = some k) (hx2 : b.ls[k]? = some x) (hs : setF l = .inr f) (hg : g = notF x.flags f) :
    Calls Tryz.prog 27 #[.pointer (some ⟨C, 0, none⟩), .int .i64 uid, .int .i64 2, fv] w fun e w' => e = .returned (.int .i64 (errN (if 12 < g.length then some 4 else none))) ∧ RBoxS N w' C (if 12 < g.length then b else { b with ls := setFl b.ls k g }) ∧ Kept (fun k => k = C) w w' ∧ FreshL w w' C := by
  obtain ⟨lv, zs, hC, hzs, hx⟩ := hb
  have hzl : zs.length ≤ 100000 := by rw [← hzs, List.length_map] at hll; exact hll
  have cF := rfind_any N b.valid b.next lv zs uid w hx (by omega)
  rw [hzs] at cF
  have hCl : C < w.heap.size := (Array.getElem?_eq_some_iff.1 hC).1
  have d2 := (three_cells hC)
  obtain ⟨d0, d1, d2⟩ := d2
  have hxl := hfs x (List.mem_of_getElem? hx2)
  have hfl12 := (set_ok hs).2.2
  rw [show findI b.ls uid = (k : Int) by unfold findI; rw [hk]] at cF
  have cS := fun W (h : Below w.heap.size w W) => rset_good hs fv W (hf.below h) hl
  have hzk : ∃ z, zs[k]? = some z ∧ z.1 = x := by
    rw [← hzs, List.getElem?_map] at hx2
    obtain ⟨z, h1, h2⟩ := Option.map_eq_some_iff.1 hx2
    exact ⟨z, h1, h2⟩
  obtain ⟨z, hzk, rfl⟩ := hzk
  obtain ⟨p, off, xa, xc, cap, hlv, hz2, c0, c1, c2, c3⟩ := xrow_at hx hzk
  subst hlv
  have hkl : k < zs.length := (List.getElem?_eq_some_iff.1 hzk).1
  have hkz : (k : Int) < (zs.length : Int) := by omega
  have hp : p < w.heap.size := World.block_lt_of_cell? _ _ c1
  have hwas := zrow_flags hx.1 (List.mem_of_getElem? hzk)
  rw [hz2] at hwas
  have HC := Lib.hid hC
  have HZS := Lib.hid hzs
  have HX := Lib.hid hx
  have HZK := Lib.hid hzk
  have HWAS := Lib.hid hwas
  obtain ⟨⟨u, fl, dy, tx⟩, zv⟩ := z
  dsimp only at *
  subst hz2
  clear hk hzs hx hs hf hx2 hwas hzk hC
  subst hg
  have cN := fun sv W (h : Below w.heap.size w W) (hv : SRow W sv f) => (without_any (.slice xa fl.length xc) sv fl f W (HWAS.out.below h) hv (by omega) (by omega)).mono (R' := fun e w' => ∃ ga gc, e = .returned (.slice ga (notF fl f).length gc) ∧ Hid (TRow w' (.slice ga (notF fl f).length gc) (notF fl f)) ∧ Below W.heap.size W w') (by
    rintro e w' ⟨r, rfl, h1, h2⟩
    obtain ⟨ga, gc, rfl, _⟩ := h1.1
    exact ⟨ga, gc, rfl, Lib.hid h1, h2⟩)
  generalize notF fl f = g at *
  have HSTAY := Lib.hid (show ∀ W, Below w.heap.size w W → RBoxS N W C b ∧ Kept (fun k => k = C) w W ∧ FreshL w W C from fun W h => ⟨RBoxS.below ⟨_, zs, HC.out, HZS.out, HX.out⟩ h, kept_below h, freshL_same (h.block C hCl)⟩)
  by_cases h12 : 12 < g.length
  · have h12z : (12 : Int) < (g.length : Int) := by omega
    go_enter Tryz.func27, Tryz.ntmps27
    go_wp2_with (first
      | (go_at_call 13; go_loud (((with_reducible refine cF.mono ?_); rintro e w1 ⟨rfl, h⟩)))
      | (go_at_call 18; go_loud (((with_reducible refine (cS _ h).mono ?_); rintro e w2 ⟨sa, sc, rfl, hT, h2⟩; have y := h.trans (h2.mono h.size); clear d0 d1 d2; obtain ⟨d0, d1, d2⟩ := three_cells ((y.block C hCl).trans HC.out); have e1 := (y.cell (p := ⟨p, off + k * 4 + 1, none⟩) hp).trans c1)))
      | (go_at_call 54; go_loud (((with_reducible refine (cN _ _ y hT.out.row).mono ?_); rintro e w3 ⟨ga, gc, rfl, hG, h3⟩; have y3 := y.trans (h3.mono y.size); clear d0 d1 d2))))
    go_ret
    exact ⟨rfl, HSTAY.out _ y3⟩
  · have h12z : ¬ (12 : Int) < (g.length : Int) := by omega
    go_enter Tryz.func27, Tryz.ntmps27
    go_upto_region 17 with (first
      | (go_at_call 13; go_loud (((with_reducible refine cF.mono ?_); rintro e w1 ⟨rfl, h⟩)))
      | (go_at_call 18; go_loud (((with_reducible refine (cS _ h).mono ?_); rintro e w2 ⟨sa, sc, rfl, hT, h2⟩; have y := h.trans (h2.mono h.size); clear d0 d1 d2; obtain ⟨d0, d1, d2⟩ := three_cells ((y.block C hCl).trans HC.out); have e1 := (y.cell (p := ⟨p, off + k * 4 + 1, none⟩) hp).trans c1)))
      | (go_at_call 54; go_loud (((with_reducible refine (cN _ _ y hT.out.row).mono ?_); rintro e w3 ⟨ga, gc, rfl, hG, h3⟩; have y3 := y.trans (h3.mono y.size); clear d0 d1 d2))))
    have hCW := (y3.block C hCl).trans HC.out
    obtain ⟨b0, b1, b2⟩ := three_cells hCW
    have yE := (Below.refl w3.heap.size w3).alloc (Nat.le_refl _) (.cells #[] 51)
    have oE : (w3.alloc (.cells #[] 51)).ownsRow w3.heap.size 51 4 (.slice (some ⟨w3.heap.size, 0, none⟩) 0 0) ([] : List (Let × Value)).length (cellsL []) := World.ownsRow_lit w3 #[] 0 (Nat.le_refl _) (by decide) rfl
    have zE := ((HX.out.below y3).below yE).1
    obtain ⟨e0, e1', e2⟩ := three_cells (below_same yE hCW)
    have hsE : w3.heap.size ≤ (w3.alloc (.cells #[] 51)).heap.size := yE.size
    go_wp2_with (at_builtin; go_must (refine wpList_appL rfl _ _ rfl w3.heap.size (.slice (some ⟨w3.heap.size, 0, none⟩) 0 0) [] _ rfl oE _ zs cap rfl zE ?hn hsE ?_))
    case hn => simp; omega
    intro v4 w4 o4 g4
    try simp only [List.nil_append] at o4
    have y4 : Below w3.heap.size w3 w4 := yE.grown g4 yE.size (fun j e => by cases e; exact Nat.le_refl _)
    obtain ⟨p2, c2', rfl⟩ : ∃ p2 c2', v4 = .slice (some ⟨p2, 0, none⟩) zs.length c2' := by
      rcases o4.2 with ⟨_, h0⟩ | ⟨g', cap', cur, e', _⟩
      · omega
      · exact ⟨g', cap', e'⟩
    obtain ⟨r1, r2, r3, r4, HP⟩ := rflag_end HC.out hN HZS.out HX.out HZK.out y3 hG.out (Nat.le_refl _) o4 y4
    clear o4 g4 oE zE
    go_wp2_with fail
    go_ret
    exact ⟨rfl, HP.out⟩
end Go.Proofs.YteclajckkjocnaaGreatDoor
namespace Go.Proofs.YteclajckkjocnaaGreatDoor
open Go.RowKit Go.Shelf Go.Sort
set_option linter.unusedSimpArgs false
set_option linter.unusedSimpArgs false
theorem srow_cells {w : World} {ao : Option Addr} {n cap : Nat} {l : List (List UInt8)} (h : SRow w (.slice ao n cap) l) : ∀ (j : Nat) (t : List UInt8), l[j]? = some t → ∃ b off, ao = some ⟨b, off, none⟩ ∧ b < w.heap.size ∧ w.cell? ⟨b, off + j, none⟩ = some (.string ⟨t.toArray⟩) := by
  obtain ⟨ao', cap', e, _, _, hc⟩ := h
  cases e
  exact hc
theorem srow_none {w : World} {ao : Option Addr} {n cap : Nat} {l : List (List UInt8)} (h : SRow w (.slice ao n cap) l) : ao = none → cap = 0 := by
  obtain ⟨ao', cap', e, _, ⟨_, hn⟩, _⟩ := h
  cases e
  exact hn
set_option maxRecDepth 100000 in
set_option maxHeartbeats 8000000 in
theorem rflag_more (N C : Nat) (b : BoxP) (uid : Int) (l : List (List UInt8)) (fv : Value) (w : World) (hb : RBoxS N w C b) (hN : N ≤ C) (hll : b.ls.length ≤ 100000) (hf : SRow w fv l) (hl : Short l) (hfs : ∀ x ∈ b.ls, x.flags.length ≤ 1000) (hft : ∀ x ∈ b.ls, ∀ t ∈ x.flags, t.length ≤ 1000000) (k : Nat) (x : Let) (f g : List (List UInt8)) (hk : findB b.ls uid = some k) (hx2 : b.ls[k]? = some x) (hs : setF l = .inr f) (hg : g = canonF (x.flags ++ f)) :
    Calls Tryz.prog 27 #[.pointer (some ⟨C, 0, none⟩), .int .i64 uid, .int .i64 1, fv] w fun e w' => e = .returned (.int .i64 (errN (if 12 < g.length then some 4 else none))) ∧ RBoxS N w' C (if 12 < g.length then b else { b with ls := setFl b.ls k g }) ∧ Kept (fun k => k = C) w w' ∧ FreshL w w' C := by
  obtain ⟨lv, zs, hC, hzs, hx⟩ := hb
  have hzl : zs.length ≤ 100000 := by rw [← hzs, List.length_map] at hll; exact hll
  have cF := rfind_any N b.valid b.next lv zs uid w hx (by omega)
  rw [hzs] at cF
  have hCl : C < w.heap.size := (Array.getElem?_eq_some_iff.1 hC).1
  have d2 := (three_cells hC)
  obtain ⟨d0, d1, d2⟩ := d2
  have hxl := hfs x (List.mem_of_getElem? hx2)
  have hfl12 := (set_ok hs).2.2
  have hsh := fun t ht => set_short hs t ht
  have hft0 := hft x (List.mem_of_getElem? hx2)
  rw [show findI b.ls uid = (k : Int) by unfold findI; rw [hk]] at cF
  have cS := fun W (h : Below w.heap.size w W) => rset_good hs fv W (hf.below h) hl
  have hzk : ∃ z, zs[k]? = some z ∧ z.1 = x := by
    rw [← hzs, List.getElem?_map] at hx2
    obtain ⟨z, h1, h2⟩ := Option.map_eq_some_iff.1 hx2
    exact ⟨z, h1, h2⟩
  obtain ⟨z, hzk, rfl⟩ := hzk
  obtain ⟨p, off, xa, xc, cap, hlv, hz2, c0, c1, c2, c3⟩ := xrow_at hx hzk
  subst hlv
  have hkl : k < zs.length := (List.getElem?_eq_some_iff.1 hzk).1
  have hkz : (k : Int) < (zs.length : Int) := by omega
  have hp : p < w.heap.size := World.block_lt_of_cell? _ _ c1
  have hwas := zrow_flags hx.1 (List.mem_of_getElem? hzk)
  rw [hz2] at hwas
  have HC := Lib.hid hC
  have HZS := Lib.hid hzs
  have HX := Lib.hid hx
  have HZK := Lib.hid hzk
  have HWAS := Lib.hid hwas
  obtain ⟨⟨u, fl, dy, tx⟩, zv⟩ := z
  dsimp only at *
  subst hz2
  clear hk hzs hx hs hf hx2 hwas hzk hC
  subst hg
  have cO := fun (B : Nat) v W (h : W.ownsRow B 9 1 v ([] ++ fl ++ f).length (([] ++ fl ++ f).map encStr)) => (ordered_any v ([] ++ fl ++ f) W (srow_owns h) (by simp; omega) (fun t ht => by simp only [List.nil_append, List.mem_append] at ht; rcases ht with h' | h'; exact hft0 t h'; have := hsh t h'; omega)).mono (R' := fun e w' => ∃ ga gc, e = .returned (.slice ga (canonF (fl ++ f)).length gc) ∧ Hid (TRow w' (.slice ga (canonF (fl ++ f)).length gc) (canonF (fl ++ f))) ∧ Below W.heap.size W w') (by
    rintro e w' ⟨r, rfl, h1, h2⟩
    obtain ⟨ga, gc, rfl, _⟩ := h1.1
    exact ⟨ga, gc, rfl, Lib.hid h1, h2⟩)
  generalize canonF (fl ++ f) = g at *
  have HSTAY := Lib.hid (show ∀ W, Below w.heap.size w W → RBoxS N W C b ∧ Kept (fun k => k = C) w W ∧ FreshL w W C from fun W h => ⟨RBoxS.below ⟨_, zs, HC.out, HZS.out, HX.out⟩ h, kept_below h, freshL_same (h.block C hCl)⟩)
  by_cases h12 : 12 < g.length
  · have h12z : (12 : Int) < (g.length : Int) := by omega
    go_enter Tryz.func27, Tryz.ntmps27
    go_wp2_with (first
      | (go_at_call 13; go_loud (((with_reducible refine cF.mono ?_); rintro e w1 ⟨rfl, h⟩)))
      | (go_at_call 18; go_loud (((with_reducible refine (cS _ h).mono ?_); rintro e w2 ⟨sa, sc, rfl, hT, h2⟩; have y := h.trans (h2.mono h.size); clear d0 d1 d2; obtain ⟨d0, d1, d2⟩ := three_cells ((y.block C hCl).trans HC.out); have oE := World.ownsRow_lit (e := 9) (size := 1) w2 #[] 0 (Nat.le_refl w2.heap.size) (by decide) rfl; have yE := (Below.refl w2.heap.size w2).alloc (Nat.le_refl _) (.cells #[] 9); have hwc := fun {W : World} (h : Below w2.heap.size w2 W) => (srow_cells (((HWAS.out.below y).below h))); have hfc := fun {W : World} (h : Below w2.heap.size w2 W) => srow_cells (hT.out.row.below h); have hwn := srow_none HWAS.out; have hfn := srow_none hT.out.row; have e1 := (y.cell (p := ⟨p, off + k * 4 + 1, none⟩) hp).trans c1)))
      | (at_builtin; refine wpList_appS rfl _ _ 35 rfl 9 Tryz.underlying35 str_info rfl w2.heap.size (.slice (some ⟨w2.heap.size, 0, none⟩) 0 0) [] _ rfl oE xa fl xc rfl hwn (hwc yE) (by simp; omega) (by decide) yE.size ?_; intro v3 w3 o3 g3; have y3' : Below w2.heap.size w2 w3 := yE.grown g3 yE.size (fun j e => by cases e; exact Nat.le_refl _); clear oE)
      | (at_builtin; refine wpList_appS rfl _ _ 35 rfl 9 Tryz.underlying35 str_info rfl w2.heap.size v3 ([] ++ fl) _ rfl o3 sa f sc rfl hfn (hfc y3') (by simp; omega) (by decide) y3'.size ?_; intro v4 w4' o4' g4'; have y4' : Below w2.heap.size w2 w4' := y3'.grown g4' y3'.size (fun j e => (o3.lt j e).1); have cO1 := cO _ v4 w4' o4'; clear o3)
      | (go_at_call 46; go_loud (((with_reducible refine cO1.mono ?_); rintro e w5 ⟨ga, gc, rfl, hG, h5⟩; have y5' := y4'.trans (h5.mono y4'.size); have y3 := y.trans (y5'.mono y.size); clear d0 d1 d2))))
    go_ret
    exact ⟨rfl, HSTAY.out _ y3⟩
  · have h12z : ¬ (12 : Int) < (g.length : Int) := by omega
    go_enter Tryz.func27, Tryz.ntmps27
    go_upto_region 17 with (first
      | (go_at_call 13; go_loud (((with_reducible refine cF.mono ?_); rintro e w1 ⟨rfl, h⟩)))
      | (go_at_call 18; go_loud (((with_reducible refine (cS _ h).mono ?_); rintro e w2 ⟨sa, sc, rfl, hT, h2⟩; have y := h.trans (h2.mono h.size); clear d0 d1 d2; obtain ⟨d0, d1, d2⟩ := three_cells ((y.block C hCl).trans HC.out); have oE := World.ownsRow_lit (e := 9) (size := 1) w2 #[] 0 (Nat.le_refl w2.heap.size) (by decide) rfl; have yE := (Below.refl w2.heap.size w2).alloc (Nat.le_refl _) (.cells #[] 9); have hwc := fun {W : World} (h : Below w2.heap.size w2 W) => (srow_cells (((HWAS.out.below y).below h))); have hfc := fun {W : World} (h : Below w2.heap.size w2 W) => srow_cells (hT.out.row.below h); have hwn := srow_none HWAS.out; have hfn := srow_none hT.out.row; have e1 := (y.cell (p := ⟨p, off + k * 4 + 1, none⟩) hp).trans c1)))
      | (at_builtin; refine wpList_appS rfl _ _ 35 rfl 9 Tryz.underlying35 str_info rfl w2.heap.size (.slice (some ⟨w2.heap.size, 0, none⟩) 0 0) [] _ rfl oE xa fl xc rfl hwn (hwc yE) (by simp; omega) (by decide) yE.size ?_; intro v3 w3 o3 g3; have y3' : Below w2.heap.size w2 w3 := yE.grown g3 yE.size (fun j e => by cases e; exact Nat.le_refl _); clear oE)
      | (at_builtin; refine wpList_appS rfl _ _ 35 rfl 9 Tryz.underlying35 str_info rfl w2.heap.size v3 ([] ++ fl) _ rfl o3 sa f sc rfl hfn (hfc y3') (by simp; omega) (by decide) y3'.size ?_; intro v4 w4' o4' g4'; have y4' : Below w2.heap.size w2 w4' := y3'.grown g4' y3'.size (fun j e => (o3.lt j e).1); have cO1 := cO _ v4 w4' o4'; clear o3)
      | (go_at_call 46; go_loud (((with_reducible refine cO1.mono ?_); rintro e w5 ⟨ga, gc, rfl, hG, h5⟩; have y5' := y4'.trans (h5.mono y4'.size); have y3 := y.trans (y5'.mono y.size); clear d0 d1 d2))))
    have hCW := (y3.block C hCl).trans HC.out
    obtain ⟨b0, b1, b2⟩ := three_cells hCW
    have yE := (Below.refl w5.heap.size w5).alloc (Nat.le_refl _) (.cells #[] 51)
    have oE : (w5.alloc (.cells #[] 51)).ownsRow w5.heap.size 51 4 (.slice (some ⟨w5.heap.size, 0, none⟩) 0 0) ([] : List (Let × Value)).length (cellsL []) := World.ownsRow_lit w5 #[] 0 (Nat.le_refl _) (by decide) rfl
    have zE := ((HX.out.below y3).below yE).1
    obtain ⟨e0, e1', e2⟩ := three_cells (below_same yE hCW)
    have hsE : w5.heap.size ≤ (w5.alloc (.cells #[] 51)).heap.size := yE.size
    go_wp2_with (at_builtin; go_must (refine wpList_appL rfl _ _ rfl w5.heap.size (.slice (some ⟨w5.heap.size, 0, none⟩) 0 0) [] _ rfl oE _ zs cap rfl zE ?hn hsE ?_))
    case hn => simp; omega
    intro v4 w4 o4 g4
    try simp only [List.nil_append] at o4
    have y4 : Below w5.heap.size w5 w4 := yE.grown g4 yE.size (fun j e => by cases e; exact Nat.le_refl _)
    obtain ⟨p2, c2', rfl⟩ : ∃ p2 c2', v4 = .slice (some ⟨p2, 0, none⟩) zs.length c2' := by
      rcases o4.2 with ⟨_, h0⟩ | ⟨g', cap', cur, e', _⟩
      · omega
      · exact ⟨g', cap', e'⟩
    obtain ⟨r1, r2, r3, r4, HP⟩ := rflag_end HC.out hN HZS.out HX.out HZK.out y3 hG.out (Nat.le_refl _) o4 y4
    clear o4 g4 oE zE
    go_wp2_with fail
    go_ret
    exact ⟨rfl, HP.out⟩
end Go.Proofs.YteclajckkjocnaaGreatDoor
namespace Go.Proofs.YteclajckkjocnaaGreatDoor
open Go.RowKit Go.Shelf Go.Sort
set_option linter.unusedSimpArgs false
theorem rflag_any (N C : Nat) (b : BoxP) (uid what : Int) (l : List (List UInt8)) (fv : Value) (w : World) (hb : RBoxS N w C b) (hN : N ≤ C) (hr : rightB b = true) (hf : SRow w fv l) (hl : Short l) :
    Calls Tryz.prog 27 #[.pointer (some ⟨C, 0, none⟩), .int .i64 uid, .int .i64 what, fv] w fun e w' => e = .returned (.int .i64 (errN (flagB b uid what l).1)) ∧ RBoxS N w' C (flagB b uid what l).2 ∧ Kept (fun k => k = C) w w' ∧ FreshL w w' C := by
  have hCl : C < w.heap.size := by
    obtain ⟨lv, h⟩ := hb.obj
    exact (Array.getElem?_eq_some_iff.1 h).1
  have hll : b.ls.length ≤ 100000 := by have := right_len hr; omega
  have hfs : ∀ x ∈ b.ls, x.flags.length ≤ 1000 := fun x hx => by have := (set_ok (right_flags hr hx)).2.2; omega
  have hft : ∀ x ∈ b.ls, ∀ t ∈ x.flags, t.length ≤ 1000000 := fun x hx t ht => by have := (flags_short (right_flags hr hx)).2 t ht; omega
  cases hk : findB b.ls uid with
  | none =>
    have e : flagB b uid what l = (some 7, b) := by unfold flagB; rw [hk]
    rw [e]
    refine (rflag_none N C b uid what l fv w hb hN hll hf hl hk).mono ?_
    rintro e w' ⟨rfl, h⟩
    exact ⟨rfl, hb.below h, kept_below h, freshL_same (h.block C hCl)⟩
  | some k =>
    cases hs : setF l with
    | inl n =>
      have e : flagB b uid what l = (some n, b) := by unfold flagB; rw [hk, hs]
      rw [e]
      refine (rflag_set N C b uid what l fv w hb hN hll hf hl k n hk hs).mono ?_
      rintro e w' ⟨rfl, h⟩
      exact ⟨rfl, hb.below h, kept_below h, freshL_same (h.block C hCl)⟩
    | inr f =>
      obtain ⟨x, hx, _⟩ := findB_some hk
      by_cases hw : what = 0 ∨ what = 1 ∨ what = 2
      case neg =>
        have e : flagB b uid what l = (some 1, b) := by
          unfold flagB doFl
          simp only [hk, hs, hx, Option.map_some, Option.getD_some]
          rw [if_neg (fun h => hw (Or.inl h)), if_neg (fun h => hw (Or.inr (Or.inl h))), if_neg (fun h => hw (Or.inr (Or.inr h)))]
        rw [e]
        refine (rflag_arg N C b uid what l fv w hb hN hll hf hl k x f hk hx hs (fun h => hw (Or.inl h)) (fun h => hw (Or.inr (Or.inl h))) (fun h => hw (Or.inr (Or.inr h)))).mono ?_
        rintro e w' ⟨rfl, h⟩
        exact ⟨rfl, hb.below h, kept_below h, freshL_same (h.block C hCl)⟩
      have key : ∀ g, doFl what x.flags f = some g → flagB b uid what l = if 12 < g.length then (some 4, b) else (none, { b with ls := setFl b.ls k g }) := fun g hg => by
        unfold flagB
        simp only [hk, hs, hx, Option.map_some, Option.getD_some, hg]
      have fin : ∀ g (e : Ending) (w' : World), flagB b uid what l = (if 12 < g.length then (some 4, b) else (none, { b with ls := setFl b.ls k g })) → (e = .returned (.int .i64 (errN (if 12 < g.length then some 4 else none))) ∧ RBoxS N w' C (if 12 < g.length then b else { b with ls := setFl b.ls k g }) ∧ Kept (fun k => k = C) w w' ∧ FreshL w w' C) →
          e = .returned (.int .i64 (errN (flagB b uid what l).1)) ∧ RBoxS N w' C (flagB b uid what l).2 ∧ Kept (fun k => k = C) w w' ∧ FreshL w w' C := fun g e w' h1 h2 => by
        rw [h1]
        by_cases h12 : 12 < g.length
        · rw [if_pos h12, if_pos h12] at h2
          rw [if_pos h12]
          exact h2
        · rw [if_neg h12, if_neg h12] at h2
          rw [if_neg h12]
          exact h2
      rcases hw with rfl | rfl | rfl
      · exact (rflag_put N C b uid l fv w hb hN hll hf hl hfs k x f _ hk hx hs rfl).mono (fun e w' h => fin _ e w' (key _ (by unfold doFl; simp)) h)
      · exact (rflag_more N C b uid l fv w hb hN hll hf hl hfs hft k x f _ hk hx hs rfl).mono (fun e w' h => fin _ e w' (key _ (by unfold doFl; simp)) h)
      · exact (rflag_less N C b uid l fv w hb hN hll hf hl hfs k x f _ hk hx hs rfl).mono (fun e w' h => fin _ e w' (key _ (by unfold doFl; simp)) h)
end Go.Proofs.YteclajckkjocnaaGreatDoor
