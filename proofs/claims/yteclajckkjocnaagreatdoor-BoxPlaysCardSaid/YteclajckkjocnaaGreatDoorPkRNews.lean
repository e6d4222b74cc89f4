/- The walks over the law's sameInts and sameLetters at rows that are alike: they return true. No condition beyond those each names. The walk over the law's sameNews at rows of news that read alike: it returns true. No condition beyond those it names. -/
import Derived.Deep.RegionHeld3
import Derived.Test.YteclajckkjocnaaGreatDoorPkViewN
import Derived.Test.YteclajckkjocnaaGreatDoorPkRFlagC
import Derived.Test.YteclajckkjocnaaGreatDoorPkRBoxA
namespace Go.Proofs.YteclajckkjocnaaGreatDoor
open Go.RowKit Go.Shelf Go.Sort
set_option linter.unusedSimpArgs false
set_option linter.unusedSimpArgs false
set_option maxRecDepth 100000 in
set_option maxHeartbeats 4000000 in
theorem sameI_any (B B2 : Nat) (u v : Value) (l : List Int) (w : World) (hu : w.ownsRow B 3 1 u l.length (l.map (Value.int .i64))) (hv : w.ownsRow B2 3 1 v l.length (l.map (Value.int .i64))) (hl : l.length ≤ 1000000) :
    Calls Tryz.prog 29 #[u, v] w fun e w' => e = .returned (.bool true) ∧ Below w.heap.size w w' := by
  obtain ⟨a, c, rfl⟩ := owns_val hu
  obtain ⟨a2, c2, rfl⟩ := owns_val hv
  have HU := Lib.hid hu
  have HV := Lib.hid hv
  clear hu hv
  go_enter Tryz.func29, Tryz.ntmps29
  go_wp2_with fail
  go_loopg [5] l.length (fun g s5 wr => ∃ k : Nat, k + g = l.length ∧ s5 = .int .i64 (k : Int) ∧ Below w.heap.size w wr)
  case atStart => exact ⟨0, by omega, rfl, Below.refl _ _⟩
  case round =>
    obtain ⟨k, hk, rfl, hbr⟩ := hrel
    by_cases hlt : k < l.length
    · obtain ⟨g', rfl⟩ : ∃ g', gk = g' + 1 := ⟨gk - 1, by omega⟩
      obtain ⟨r, hr⟩ : ∃ r, l[k]? = some r := ⟨l[k], List.getElem?_eq_getElem hlt⟩
      obtain ⟨p, q, e1⟩ := own_some HU.out (by omega)
      obtain ⟨p2, q2, e2⟩ := own_some HV.out (by omega)
      cases e1
      cases e2
      have d0 := (hbr.cell (p := ⟨p, k, none⟩) (HU.out.lt p rfl).2).trans ((HU.out.cellAt k (by omega)).trans (by rw [List.getElem?_map, hr, Option.map_some]))
      have d1 := (hbr.cell (p := ⟨p2, k, none⟩) (HV.out.lt p2 rfl).2).trans ((HV.out.cellAt k (by omega)).trans (by rw [List.getElem?_map, hr, Option.map_some]))
      have hltz : (k : Int) < (l.length : Int) := by omega
      clear hr
      go_wp2_with fail
      go_quiet (fail)
      go_wp2_with fail
      go_roundg g'
      case measure => omega
      case rel => exact ⟨k + 1, by omega, by go_num, hbr.trans ((below_drewN wr _).mono hbr.size)⟩
    · go_wp2_with fail
      go_ret
      exact ⟨rfl, hbr⟩
set_option maxRecDepth 100000 in
set_option maxHeartbeats 8000000 in
theorem sameL_any (N M : Nat) (u v : Value) (zs ys : List (Let × Value)) (w : World) (hu : XRow N w u zs) (hv : XRow M w v ys) (hh : ys.map (·.1) = zs.map (·.1)) (hl : zs.length ≤ 1000000) :
    Calls Tryz.prog 11 #[u, v] w fun e w' => e = .returned (.bool true) ∧ Below w.heap.size w w' := by
  obtain ⟨a, c, rfl, _⟩ := hu.1
  obtain ⟨a2, c2, rfl, _⟩ := hv.1
  have hlen : ys.length = zs.length := by
    have := congrArg List.length hh
    simpa using this
  have HU := Lib.hid hu
  have HV := Lib.hid hv
  have HH := Lib.hid hh
  have HLEN := Lib.hid hlen
  rw [hlen]
  clear hu hv hh hlen
  go_enter Tryz.func11, Tryz.ntmps11
  go_wp2_with fail
  go_loopg [5] zs.length (fun g s5 wr => ∃ k : Nat, k + g = zs.length ∧ s5 = .int .i64 (k : Int) ∧ Below w.heap.size w wr)
  case atStart => exact ⟨0, by omega, rfl, Below.refl _ _⟩
  case round =>
    obtain ⟨k, hk, rfl, hbr⟩ := hrel
    by_cases hlt : k < zs.length
    · obtain ⟨g', rfl⟩ : ∃ g', gk = g' + 1 := ⟨gk - 1, by omega⟩
      obtain ⟨z, hz⟩ : ∃ z, zs[k]? = some z := ⟨zs[k], List.getElem?_eq_getElem hlt⟩
      obtain ⟨y, hy⟩ : ∃ y, ys[k]? = some y := ⟨ys[k]'(by rw [HLEN.out]; exact hlt), List.getElem?_eq_getElem (by rw [HLEN.out]; exact hlt)⟩
      have he : y.1 = z.1 := by
        have h1 := congrArg (fun l => l[k]?) HH.out
        simp only [List.getElem?_map, hz, hy, Option.map_some, Option.some.injEq] at h1
        exact h1
      obtain ⟨p, off, xa, xc, cap, e1, e2, c0, c1, c2, c3⟩ := xrow_at (HU.out.below hbr) hz
      obtain ⟨p2, off2, ya, yc, cap2, f1, f2, e0, e1', e2', e3⟩ := xrow_at (HV.out.below hbr) hy
      cases e1
      have hf1 : a2 = some ⟨p2, off2, none⟩ := by injection f1
      subst hf1
      have hzf := zrow_flags (HU.out.below hbr).1 (List.mem_of_getElem? hz)
      have hyf := zrow_flags (HV.out.below hbr).1 (List.mem_of_getElem? hy)
      obtain ⟨⟨i, fl, dy, tx⟩, zv⟩ := z
      obtain ⟨y1, yv⟩ := y
      dsimp only at *
      subst he
      dsimp only at *
      subst e2
      subst f2
      have hltz : (k : Int) < (zs.length : Int) := by omega
      have hts := text_size tx
      have cT := fun W (h : Below wr.heap.size wr W) => same_any (.slice xa fl.length xc) (.slice ya fl.length yc) fl W (hzf.below h) (hyf.below h)
      have hb := (Below.refl wr.heap.size wr).drew
      have hpl := World.block_lt_of_cell? _ _ c0
      have hpl2 := World.block_lt_of_cell? _ _ e0
      have KEEP := Lib.hid (show ∀ W, Below wr.heap.size wr W → (fun W => W.cell? ⟨p, off + k * 4, none⟩ = some (.int .i64 i) ∧ W.cell? ⟨p, off + k * 4 + 1, none⟩ = some (.slice xa fl.length xc) ∧ W.cell? ⟨p, off + k * 4 + 2, none⟩ = some (.int .i64 dy) ∧ W.cell? ⟨p, off + k * 4 + 3, none⟩ = some (.string ⟨tx.toArray⟩) ∧ W.cell? ⟨p2, off2 + k * 4, none⟩ = some (.int .i64 i) ∧ W.cell? ⟨p2, off2 + k * 4 + 1, none⟩ = some (.slice ya fl.length yc) ∧ W.cell? ⟨p2, off2 + k * 4 + 2, none⟩ = some (.int .i64 dy) ∧ W.cell? ⟨p2, off2 + k * 4 + 3, none⟩ = some (.string ⟨tx.toArray⟩)) W from fun W h => ⟨(h.cell (p := ⟨p, off + k * 4, none⟩) hpl).trans c0, (h.cell (p := ⟨p, off + k * 4 + 1, none⟩) hpl).trans c1, (h.cell (p := ⟨p, off + k * 4 + 2, none⟩) hpl).trans c2, (h.cell (p := ⟨p, off + k * 4 + 3, none⟩) hpl).trans c3.1, (h.cell (p := ⟨p2, off2 + k * 4, none⟩) hpl2).trans e0, (h.cell (p := ⟨p2, off2 + k * 4 + 1, none⟩) hpl2).trans e1', (h.cell (p := ⟨p2, off2 + k * 4 + 2, none⟩) hpl2).trans e2', (h.cell (p := ⟨p2, off2 + k * 4 + 3, none⟩) hpl2).trans e3.1⟩)
      clear hz hy c0 c1 c2 c3 e0 e1' e2' e3
      go_upto_region 6 with fail
      go_region_held3 (fun W => W.cell? ⟨p, off + k * 4, none⟩ = some (.int .i64 i) ∧ W.cell? ⟨p, off + k * 4 + 1, none⟩ = some (.slice xa fl.length xc) ∧ W.cell? ⟨p, off + k * 4 + 2, none⟩ = some (.int .i64 dy) ∧ W.cell? ⟨p, off + k * 4 + 3, none⟩ = some (.string ⟨tx.toArray⟩) ∧ W.cell? ⟨p2, off2 + k * 4, none⟩ = some (.int .i64 i) ∧ W.cell? ⟨p2, off2 + k * 4 + 1, none⟩ = some (.slice ya fl.length yc) ∧ W.cell? ⟨p2, off2 + k * 4 + 2, none⟩ = some (.int .i64 dy) ∧ W.cell? ⟨p2, off2 + k * 4 + 3, none⟩ = some (.string ⟨tx.toArray⟩))
        (first | exact KEEP.out _ hb)
        (first
          | (go_at_call 37; with_reducible refine (cT _ hb).mono ?_; rintro e w7 ⟨rfl, h⟩; have hb := hb.trans (h.mono hb.size)))
      go_wp2_with fail
      go_roundg g'
      case measure => omega
      case rel => exact ⟨k + 1, by omega, by go_num, hbr.trans (hb.mono hbr.size)⟩
    · go_wp2_with fail
      go_ret
      exact ⟨rfl, hbr⟩
end Go.Proofs.YteclajckkjocnaaGreatDoor
namespace Go.Proofs.YteclajckkjocnaaGreatDoor
open Go.RowKit Go.Shelf Go.Sort
set_option linter.unusedSimpArgs false
set_option linter.unusedSimpArgs false
theorem newsL_get : ∀ {vs : NV} {j : Nat} {v : Int × Int × (Option Addr × Nat × Nat)}, vs[j]? = some v → (cellsN vs)[j * 3]? = some (.int .i64 v.1) ∧ (cellsN vs)[j * 3 + 1]? = some (.int .i64 v.2.1) ∧ (cellsN vs)[j * 3 + 2]? = some (encSl v.2.2)
  | [], j, v, h => by simp at h
  | x :: r, 0, v, h => by
    simp only [List.getElem?_cons_zero, Option.some.injEq] at h
    subst h
    exact ⟨rfl, rfl, rfl⟩
  | x :: r, j + 1, v, h => by
    have := newsL_get (vs := r) (j := j) (v := v) (by simpa using h)
    have e : (j + 1) * 3 = j * 3 + 3 := by omega
    rw [e]
    exact this
/-- a piece of news, by its cells -/
theorem newsL_at {w : World} {B N : Nat} {T : TypeId} {v : Value} {vs : NV} {ns : List Nw} (h : w.ownsRow B T 3 v vs.length (cellsN vs)) (hr : ReadsN N w vs ns) {k : Nat} {x : Nw} (hx : ns[k]? = some x) :
    ∃ p q xa xc, v = .slice (some ⟨p, 0, none⟩) vs.length q ∧ w.cell? ⟨p, k * 3, none⟩ = some (.int .i64 x.kind) ∧ w.cell? ⟨p, k * 3 + 1, none⟩ = some (.int .i64 x.n) ∧ w.cell? ⟨p, k * 3 + 2, none⟩ = some (.slice xa x.fl.length xc) ∧ SRow w (.slice xa x.fl.length xc) x.fl := by
  obtain ⟨g, hg, e1, e2, hs, _⟩ := hr.2 k x hx
  obtain ⟨p, q, rfl⟩ := own_some h (by have := (List.getElem?_eq_some_iff.1 hg).1; omega)
  obtain ⟨c0, c1, c2⟩ := newsL_get hg
  have hs' := hs
  obtain ⟨xa, xc, e3, _⟩ := hs'
  rw [e3] at hs c2
  have hi := (List.getElem?_eq_some_iff.1 hg).1
  refine ⟨p, q, xa, xc, rfl, ?_, ?_, ?_, hs⟩
  · rw [h.cellAt _ (by omega), c0, e1]
  · rw [h.cellAt _ (by omega), c1, e2]
  · rw [h.cellAt _ (by omega), c2]
set_option maxRecDepth 100000 in
set_option maxHeartbeats 8000000 in
theorem sameN_any (B B2 N M : Nat) (u v : Value) (us vs : NV) (ns : List Nw) (w : World) (hu : w.ownsRow B 103 3 u us.length (cellsN us)) (hv : w.ownsRow B2 104 3 v vs.length (cellsN vs)) (hru : ReadsN N w us ns) (hrv : ReadsN M w vs ns) (hl : ns.length ≤ 1000000) :
    Calls Tryz.prog 32 #[u, v] w fun e w' => e = .returned (.bool true) ∧ Below w.heap.size w w' := by
  obtain ⟨a, c, rfl⟩ := owns_val hu
  obtain ⟨a2, c2, rfl⟩ := owns_val hv
  have hl1 := hru.1
  have hl2 := hrv.1
  rw [hl1] at hu ⊢
  rw [hl2] at hv ⊢
  have hru' : us.length = ns.length := hl1
  have HU := Lib.hid hu; have HV := Lib.hid hv; have HRU := Lib.hid hru; have HRV := Lib.hid hrv; have HL1 := Lib.hid hl1; have HL2 := Lib.hid hl2
  clear hu hv hru hrv hl1 hl2 hru'
  go_enter Tryz.func32, Tryz.ntmps32
  go_wp2_with fail
  go_loopg [5] ns.length (fun g s5 wr => ∃ k : Nat, k + g = ns.length ∧ s5 = .int .i64 (k : Int) ∧ Below w.heap.size w wr)
  case atStart => exact ⟨0, by omega, rfl, Below.refl _ _⟩
  case round =>
    obtain ⟨k, hk, rfl, hbr⟩ := hrel
    by_cases hlt : k < ns.length
    · obtain ⟨g', rfl⟩ : ∃ g', gk = g' + 1 := ⟨gk - 1, by omega⟩
      obtain ⟨x, hx⟩ : ∃ x, ns[k]? = some x := ⟨ns[k], List.getElem?_eq_getElem hlt⟩
      obtain ⟨p, q, xa, xc, e1, c0, c1, c2, hs⟩ := newsL_at (HL1.out ▸ HU.out) HRU.out hx
      obtain ⟨p2, q2, ya, yc, f1, d0, d1, d2, hs2⟩ := newsL_at (HL2.out ▸ HV.out) HRV.out hx
      obtain rfl : a = some ⟨p, 0, none⟩ := by injection e1
      obtain rfl : a2 = some ⟨p2, 0, none⟩ := by injection f1
      obtain ⟨kd, nn, fl⟩ := x
      dsimp only at *
      have hpl := World.block_lt_of_cell? _ _ c0
      have hpl2 := World.block_lt_of_cell? _ _ d0
      have hltz : (k : Int) < (ns.length : Int) := by omega
      have cT := fun W (h : Below wr.heap.size wr W) => same_any (.slice xa fl.length xc) (.slice ya fl.length yc) fl W (hs.below (hbr.trans (h.mono hbr.size))) (hs2.below (hbr.trans (h.mono hbr.size)))
      have hb := (Below.refl wr.heap.size wr).drew
      have KEEP := Lib.hid (show ∀ W, Below wr.heap.size wr W → W.cell? ⟨p, k * 3, none⟩ = some (.int .i64 kd) ∧ W.cell? ⟨p, k * 3 + 1, none⟩ = some (.int .i64 nn) ∧ W.cell? ⟨p, k * 3 + 2, none⟩ = some (.slice xa fl.length xc) ∧ W.cell? ⟨p2, k * 3, none⟩ = some (.int .i64 kd) ∧ W.cell? ⟨p2, k * 3 + 1, none⟩ = some (.int .i64 nn) ∧ W.cell? ⟨p2, k * 3 + 2, none⟩ = some (.slice ya fl.length yc) from fun W h =>
        have h := hbr.trans (h.mono hbr.size)
        ⟨(h.cell (p := ⟨p, k * 3, none⟩) hpl).trans c0, (h.cell (p := ⟨p, k * 3 + 1, none⟩) hpl).trans c1, (h.cell (p := ⟨p, k * 3 + 2, none⟩) hpl).trans c2, (h.cell (p := ⟨p2, k * 3, none⟩) hpl2).trans d0, (h.cell (p := ⟨p2, k * 3 + 1, none⟩) hpl2).trans d1, (h.cell (p := ⟨p2, k * 3 + 2, none⟩) hpl2).trans d2⟩)
      clear hx c0 c1 c2 d0 d1 d2 e1 f1 hs hs2
      go_upto_region 6 with fail
      go_region_held3 (fun W => W.cell? ⟨p, k * 3, none⟩ = some (.int .i64 kd) ∧ W.cell? ⟨p, k * 3 + 1, none⟩ = some (.int .i64 nn) ∧ W.cell? ⟨p, k * 3 + 2, none⟩ = some (.slice xa fl.length xc) ∧ W.cell? ⟨p2, k * 3, none⟩ = some (.int .i64 kd) ∧ W.cell? ⟨p2, k * 3 + 1, none⟩ = some (.int .i64 nn) ∧ W.cell? ⟨p2, k * 3 + 2, none⟩ = some (.slice ya fl.length yc))
        (first | exact KEEP.out _ hb)
        (first
          | (go_at_call 37; with_reducible refine (cT _ hb).mono ?_; rintro e w7 ⟨rfl, h⟩; have hb := hb.trans (h.mono hb.size)))
      go_wp2_with fail
      go_roundg g'
      case measure => omega
      case rel => exact ⟨k + 1, by omega, by go_num, hbr.trans (hb.mono hbr.size)⟩
    · go_wp2_with fail
      go_ret
      exact ⟨rfl, hbr⟩
end Go.Proofs.YteclajckkjocnaaGreatDoor
