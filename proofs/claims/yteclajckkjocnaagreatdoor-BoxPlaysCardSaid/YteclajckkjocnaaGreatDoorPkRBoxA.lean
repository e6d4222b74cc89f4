/- The reference's box by its cells; the walks over its Same and Find. No condition beyond those each names. -/
import Derived.Test.YteclajckkjocnaaGreatDoorPkBoxF
import Derived.Test.YteclajckkjocnaaGreatDoorPkViewN
namespace Go.Proofs.YteclajckkjocnaaGreatDoor
open Go.RowKit Go.Shelf Go.Sort
set_option linter.unusedSimpArgs false
set_option linter.unusedSimpArgs false
/-- the reference's box in a block of its own -/
def RBoxS (N : Nat) (w : World) (C : Nat) (b : BoxP) : Prop := ∃ lv zs, w.heap[C]? = some (.cells #[.int .i64 b.valid, .int .i64 b.next, lv] 26 (0, 0)) ∧ zs.map (·.1) = b.ls ∧ XRow N w lv zs
theorem RBoxS.kept {N : Nat} {w w' : World} {C : Nat} {b : BoxP} {S : Nat → Prop} (h : RBoxS N w C b) (hk : Kept S w w') (hs : Spares N w S) (hC : ¬ S C) : RBoxS N w' C b := by
  obtain ⟨lv, zs, h1, h2, h3⟩ := h
  exact ⟨lv, zs, hk.obj h1 hC, h2, h3.kept hk hs⟩
theorem RBoxS.below {N : Nat} {w w' : World} {C : Nat} {b : BoxP} (h : RBoxS N w C b) (hb : Below w.heap.size w w') : RBoxS N w' C b := h.kept (S := fun _ => False) (kept_below hb) (spares_none N w) id
theorem RBoxS.obj {N : Nat} {w : World} {C : Nat} {b : BoxP} (h : RBoxS N w C b) : ∃ lv, w.heap[C]? = some (.cells #[.int .i64 b.valid, .int .i64 b.next, lv] 26 (0, 0)) := let ⟨lv, _, h, _⟩ := h; ⟨lv, h⟩
theorem RBoxS.spares {N : Nat} {w : World} {C : Nat} {b : BoxP} (h : RBoxS N w C b) (hN : N ≤ C) : Spares N w (fun k => k = C) := by
  obtain ⟨lv, h⟩ := h.obj
  exact spares_at h hN (by decide) (by decide)
theorem zrow_flags {w : World} {v : Value} {zs : List (Let × Value)} (h : ZRow w v zs) {z : Let × Value} (hz : z ∈ zs) : SRow w z.2 z.1.flags := by
  obtain ⟨_, _, _, _, _, h4, _⟩ := h
  exact h4 z hz
set_option maxRecDepth 100000 in
set_option maxHeartbeats 4000000 in
theorem rsame_any (v u : Value) (l m : List (List UInt8)) (w : World) (hv : SRow w v l) (hu : SRow w u m) (hl : l.length ≤ 1000000) (_hm : m.length ≤ 1000000) :
    Calls Tryz.prog 19 #[v, u] w fun e w' => e = .returned (.bool (decide (l = m))) ∧ Below w.heap.size w w' := by
  obtain ⟨ao, cap, rfl, hcap, ⟨hcm, _⟩, hcell⟩ := hv
  obtain ⟨bo, cap2, rfl, hcap2, ⟨hcm2, _⟩, hcell2⟩ := hu
  have HC := Lib.hid hcell
  have HD := Lib.hid hcell2
  obtain ⟨R, hR⟩ : ∃ R, decide (l = m) = R := ⟨_, rfl⟩
  rw [hR]
  clear hcell hcell2
  by_cases hlen : m.length = l.length
  · have HR : Hid (R = decide (l.drop 0 = m.drop 0)) := by show _ = _; rw [← hR]; rfl
    have HLE := Lib.hid hlen
    rw [hlen]
    clear hR hlen hcap2 hcm2 _hm
    go_enter Tryz.func19, Tryz.ntmps19
    go_wp2_with fail
    go_loopg [13] l.length (fun g s13 wr => ∃ k : Nat, k + g = l.length ∧ s13 = .int .i64 (k : Int) ∧ Below w.heap.size w wr ∧ Hid (R = decide (l.drop k = m.drop k)))
    case atStart => exact ⟨0, by omega, rfl, Below.refl _ _, HR.out⟩
    case round =>
      obtain ⟨k, hk, rfl, hbr, HK⟩ := hrel
      clear HR
      by_cases hlt : k < l.length
      · obtain ⟨g', rfl⟩ : ∃ g', gk = g' + 1 := ⟨gk - 1, by omega⟩
        obtain ⟨s, hs⟩ : ∃ s, l[k]? = some s := ⟨l[k], List.getElem?_eq_getElem hlt⟩
        have hlt2 : k < m.length := by rw [HLE.out]; exact hlt
        obtain ⟨t, ht⟩ : ∃ t, m[k]? = some t := ⟨m[k], List.getElem?_eq_getElem hlt2⟩
        obtain ⟨b, off, rfl, hb, c0⟩ := HC.out k s hs
        obtain ⟨b2, off2, rfl, hb2, e0⟩ := HD.out k t ht
        have d0 := (hbr.cell (p := ⟨b, off + k, none⟩) hb).trans c0
        have d1 := (hbr.cell (p := ⟨b2, off2 + k, none⟩) hb2).trans e0
        have hdr : l.drop k = s :: l.drop (k + 1) := by
          rw [List.drop_eq_getElem_cons hlt]
          rw [List.getElem?_eq_getElem hlt] at hs
          rw [Option.some.inj hs]
        have hdr2 : m.drop k = t :: m.drop (k + 1) := by
          rw [List.drop_eq_getElem_cons hlt2]
          rw [List.getElem?_eq_getElem hlt2] at ht
          rw [Option.some.inj ht]
        have hK := HK.out
        rw [hdr, hdr2] at hK
        have hltz : (k : Int) < (l.length : Int) := by omega
        clear c0 e0 hs ht hdr hdr2 hlt2
        by_cases he : s = t
        · subst he
          have HK2 : Hid (R = decide (l.drop (k + 1) = m.drop (k + 1))) := by
            show _ = _
            rw [hK]; congr 1; simp
          clear hK HK
          go_wp2_with fail
          go_quiet (fail)
          go_wp2_with fail
          go_roundg g'
          case measure => omega
          case rel => exact ⟨k + 1, by omega, by go_num, hbr.trans ((below_drewN wr _).mono hbr.size), HK2.out⟩
        · have hX : R = false := by rw [hK]; apply decide_eq_false; intro h; exact he (List.cons.inj h).1
          subst hX
          have n5 : (s == t) = false := by rw [beq_eq_false_iff_ne]; exact he
          clear hK HK
          go_wp2_with fail
          go_quiet (fail)
          go_wp2_with fail
          go_ret
          exact ⟨rfl, hbr.trans ((below_drewN wr _).mono hbr.size)⟩
      · have hX : R = true := by
          rw [HK.out, List.drop_eq_nil_of_le (by omega), List.drop_eq_nil_of_le (by rw [HLE.out]; omega)]; rfl
        subst hX
        clear HK
        go_wp2_with fail
        go_ret
        exact ⟨rfl, hbr⟩
  · have hX : R = false := by rw [← hR]; apply decide_eq_false; intro h; exact hlen (by rw [h])
    subst hX
    have h1 : ¬ ((l.length : Int) = (m.length : Int)) := by omega
    have h2 : ((l.length : Int) == (m.length : Int)) = false := by rw [beq_eq_false_iff_ne]; exact h1
    clear hR hlen
    go_enter Tryz.func19, Tryz.ntmps19
    go_wp2_with fail
    go_ret
    exact ⟨rfl, Below.refl _ _⟩
/-- where a letter is, as the reference tells it -/
def findI (l : List Let) (n : Int) : Int := match findB l n with
  | some k => (k : Int)
  | none => -1
theorem findB_cons (x : Let) (l : List Let) (n : Int) : findB (x :: l) n = if x.uid = n then some 0 else (findB l n).map (· + 1) := by
  unfold findB
  rw [List.findIdx?_cons]
  by_cases h : x.uid = n
  · simp [h]
  · simp [h]
set_option maxRecDepth 100000 in
set_option maxHeartbeats 4000000 in
theorem rfind_any (N : Nat) (vd nx : Int) (lv : Value) (zs : List (Let × Value)) (uid : Int) (w : World) (hx : XRow N w lv zs) (hl : zs.length ≤ 1000000) :
    Calls Tryz.prog 13 #[.agg #[.int .i64 vd, .int .i64 nx, lv], .int .i64 uid] w fun e w' => e = .returned (.int .i64 (findI (zs.map (·.1)) uid)) ∧ Below w.heap.size w w' := by
  obtain ⟨ao, cap, rfl, _⟩ := hx.1
  obtain ⟨R, hR⟩ : ∃ R, findI (zs.map (·.1)) uid = R := ⟨_, rfl⟩
  rw [hR]
  have HX := Lib.hid hx
  have y0 := (Below.refl w.heap.size w).alloc (Nat.le_refl _) (.cells #[.int .i64 vd, .int .i64 nx, .slice ao zs.length cap] 26)
  have x0 := World.heap_alloc_new w (.cells #[.int .i64 vd, .int .i64 nx, .slice ao zs.length cap] 26)
  obtain ⟨w0, hw0⟩ : ∃ w0, w.alloc (.cells #[.int .i64 vd, .int .i64 nx, .slice ao zs.length cap] 26) = w0 := ⟨_, rfl⟩
  rw [hw0] at y0 x0
  have HW := Lib.hid hw0
  obtain ⟨k0, k1, k2⟩ := three_cells x0
  have HR : Hid (R = match findB ((zs.drop 0).map (·.1)) uid with | some j => ((0 + j : Nat) : Int) | none => -1) := by
    show _ = _
    rw [← hR]
    unfold findI
    rw [List.drop_zero]
    cases findB (zs.map (·.1)) uid <;> simp
  have Y0 := Lib.hid y0
  clear hR hx hw0 y0 x0
  go_enter Tryz.func13, Tryz.ntmps13
  go_upto_region 1 with fail
  rw [show w.alloc (.cells #[.int .i64 vd, .int .i64 nx, .slice ao zs.length cap] 26) = w0 from HW.out]
  go_wp2_with fail
  go_loopg [10] zs.length (fun g s10 wr => ∃ k : Nat, k + g = zs.length ∧ s10 = .int .i64 (k : Int) ∧ Below w0.heap.size w0 wr ∧ Hid (R = match findB ((zs.drop k).map (·.1)) uid with | some j => ((k + j : Nat) : Int) | none => -1))
  case atStart => exact ⟨0, by omega, rfl, Below.refl _ _, HR.out⟩
  case round =>
    obtain ⟨k, hk, rfl, hbr, HK⟩ := hrel
    clear HR k0 k1 k2
    by_cases hlt : k < zs.length
    · obtain ⟨g', rfl⟩ : ∃ g', gk = g' + 1 := ⟨gk - 1, by omega⟩
      obtain ⟨z, hz⟩ : ∃ z, zs[k]? = some z := ⟨zs[k], List.getElem?_eq_getElem hlt⟩
      obtain ⟨p, off, xa, xc, cap', e1, e2, c0, c1, c2, c3⟩ := xrow_at ((HX.out.below Y0.out).below hbr) hz
      cases e1
      have hdr : (zs.drop k).map (·.1) = z.1 :: (zs.drop (k + 1)).map (·.1) := by
        rw [List.drop_eq_getElem_cons hlt]
        rw [List.getElem?_eq_getElem hlt] at hz
        rw [Option.some.inj hz]; rfl
      have hK := HK.out
      rw [hdr, findB_cons] at hK
      obtain ⟨⟨u, fl, dy, tx⟩, zv⟩ := z
      dsimp only at *
      subst e2
      have hltz : (k : Int) < (zs.length : Int) := by omega
      have y5 := (Below.refl wr.heap.size wr).alloc (Nat.le_refl _) (.cells #[.int .i64 u, .slice xa fl.length xc, .int .i64 dy, .string ⟨tx.toArray⟩] 51)
      have x5 := World.heap_alloc_new wr (.cells #[.int .i64 u, .slice xa fl.length xc, .int .i64 dy, .string ⟨tx.toArray⟩] 51)
      obtain ⟨w5, hw5⟩ : ∃ w5, wr.alloc (.cells #[.int .i64 u, .slice xa fl.length xc, .int .i64 dy, .string ⟨tx.toArray⟩] 51) = w5 := ⟨_, rfl⟩
      rw [hw5] at y5 x5
      have HW5 := Lib.hid hw5
      obtain ⟨l0, l1, l2, l3⟩ := four_cells x5
      have Y5 := Lib.hid y5
      clear hw5 y5 x5 hz hdr
      go_upto_region 4 with fail
      rw [show wr.alloc (.cells #[.int .i64 u, .slice xa fl.length xc, .int .i64 dy, .string ⟨tx.toArray⟩] 51) = w5 from HW5.out]
      by_cases he : u = uid
      · subst he
        rw [if_pos rfl] at hK
        have hX : R = (k : Int) := by rw [hK]; simp
        subst hX
        clear hK HK
        go_wp2_with fail
        go_ret
        exact ⟨rfl, (Y0.out.trans (hbr.mono Y0.out.size)).trans (Y5.out.mono (Y0.out.trans (hbr.mono Y0.out.size)).size)⟩
      · rw [if_neg he] at hK
        have n5 : (u == uid) = false := by rw [beq_eq_false_iff_ne]; exact he
        have HK2 : Hid (R = match findB ((zs.drop (k + 1)).map (·.1)) uid with | some j => ((k + 1 + j : Nat) : Int) | none => -1) := by
          show _ = _
          rw [hK]
          cases findB ((zs.drop (k + 1)).map (·.1)) uid with
          | none => rfl
          | some j => show ((k + (j + 1) : Nat) : Int) = _; congr 1; omega
        clear hK HK
        go_wp2_with fail
        go_roundg g'
        case measure => omega
        case rel => exact ⟨k + 1, by omega, by go_num, hbr.trans (Y5.out.mono hbr.size), HK2.out⟩
    · have hX : R = -1 := by rw [HK.out, List.drop_eq_nil_of_le (by omega)]; rfl
      subst hX
      clear HK
      go_wp2_with fail
      go_ret
      exact ⟨rfl, Y0.out.trans (hbr.mono Y0.out.size)⟩
end Go.Proofs.YteclajckkjocnaaGreatDoor
