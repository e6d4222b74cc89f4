/- The walk over box.Right, whatever the box. Condition: flags.system lies as the program's text lays it. -/
import Derived.Test.YteclajckkjocnaaGreatDoorPkBoxAF
import Derived.Test.YteclajckkjocnaaGreatDoorPkRBoxA
namespace Go.Proofs.YteclajckkjocnaaGreatDoor
open Go.RowKit Go.Shelf Go.Sort
set_option linter.unusedSimpArgs false
set_option linter.unusedSimpArgs false
theorem bnum_any (n : Int) (w : World) : Calls Tryz.prog 15 #[.int .i64 n] w fun e w' => e = .returned (.bool (numB n)) ∧ w = w' := by
  unfold numB maxN
  by_cases h1 : 1 ≤ n
  · by_cases h2 : n ≤ 2147483647
    · simp only [h1, h2, decide_true, Bool.and_self]
      go_enter Tryz.func15, Tryz.ntmps15
      go_wp2_with fail
      go_ret
      exact ⟨rfl, rfl⟩
    · simp only [h1, h2, decide_true, decide_false, Bool.and_false]
      go_enter Tryz.func15, Tryz.ntmps15
      go_wp2_with fail
      go_ret
      exact ⟨rfl, rfl⟩
  · simp only [h1, decide_false, Bool.false_and]
    go_enter Tryz.func15, Tryz.ntmps15
    go_wp2_with fail
    go_ret
    exact ⟨rfl, rfl⟩
set_option maxRecDepth 100000 in
set_option maxHeartbeats 8000000 in
/-- box.Right: the document's, whatever the box -/
theorem bright_any (N : Nat) (b : BoxP) (lv : Value) (zs : List (Let × Value)) (w : World) (hx : XRow N w lv zs) (hzs : zs.map (·.1) = b.ls) (hfl : ∀ x ∈ b.ls, Short x.flags) (htl : ∀ x ∈ b.ls, x.text.length ≤ 1000000) (hll : b.ls.length ≤ 1000000) (hG : FlagG w) :
    Calls Tryz.prog 5 #[.agg #[.int .i64 b.valid, .int .i64 b.next, lv]] w fun e w' => e = .returned (.bool (rightB b)) ∧ Below w.heap.size w w' := by
  obtain ⟨vd, nx, ls⟩ := b
  dsimp only at *
  obtain ⟨ao, cap, rfl, _⟩ := hx.1
  have HLEN : Hid (zs.length = ls.length) := Lib.hid (by rw [← hzs, List.length_map])
  obtain ⟨R, hR⟩ : ∃ R, rightB ⟨vd, nx, ls⟩ = R := ⟨_, rfl⟩
  rw [hR]
  obtain ⟨REST, hREST⟩ : ∃ REST, (numB vd && numB nx && decide (ls.length ≤ 60)) = REST := ⟨_, rfl⟩
  have HX := Lib.hid hx
  have HZ := Lib.hid hzs
  have HFL := Lib.hid hfl
  have HTL := Lib.hid htl
  have y0 := (Below.refl w.heap.size w).alloc (Nat.le_refl _) (.cells #[.int .i64 vd, .int .i64 nx, .slice ao zs.length cap] 28)
  have x0 := World.heap_alloc_new w (.cells #[.int .i64 vd, .int .i64 nx, .slice ao zs.length cap] 28)
  obtain ⟨w0, hw0⟩ : ∃ w0, w.alloc (.cells #[.int .i64 vd, .int .i64 nx, .slice ao zs.length cap] 28) = w0 := ⟨_, rfl⟩
  rw [hw0] at y0 x0
  have HW := Lib.hid hw0
  obtain ⟨k0, k1, k2⟩ := three_cells x0
  have Y0 := Lib.hid y0
  have X0 := Lib.hid x0
  have HR : Hid (R = (boxRL nx 0 (ls.drop 0) && REST)) := by
    show _ = _
    rw [← hR, ← hREST]
    unfold rightB
    rw [List.drop_zero]
    cases boxRL nx 0 ls <;> simp
  have HREST := Lib.hid hREST
  have HG := Lib.hid hG
  clear hG hR hREST hx hw0 y0 x0 hfl htl hzs
  go_enter Tryz.func5, Tryz.ntmps5
  go_upto_region 1 with fail
  rw [show w.alloc (.cells #[.int .i64 vd, .int .i64 nx, .slice ao zs.length cap] 28) = w0 from HW.out]
  go_wp2_with fail
  go_loopg [4, 12] zs.length (fun g s4 s12 wr => ∃ (k : Nat) (last : Int), k + g = zs.length ∧ s4 = .int .i64 last ∧ s12 = .int .i64 (k : Int) ∧ Below w0.heap.size w0 wr ∧ Hid (R = (boxRL nx last (ls.drop k) && REST)))
  case atStart => exact ⟨0, 0, by omega, rfl, rfl, Below.refl _ _, HR.out⟩
  case round =>
    obtain ⟨k, last, hk, rfl, rfl, hbr, HK⟩ := hrel
    clear HR k0 k1 k2
    have hbw := Y0.out.trans (hbr.mono Y0.out.size)
    have xb := below_same hbr X0.out
    obtain ⟨k0, k1, k2⟩ := three_cells xb
    by_cases hlt : k < zs.length
    · obtain ⟨g', rfl⟩ : ∃ g', gk = g' + 1 := ⟨gk - 1, by omega⟩
      obtain ⟨z, hz⟩ : ∃ z, zs[k]? = some z := ⟨zs[k], List.getElem?_eq_getElem hlt⟩
      have hxr := (HX.out.below Y0.out).below hbr
      obtain ⟨p, off, xa, xc, cap', e1, e2, c0, c1, c2, c3⟩ := xrow_at hxr hz
      cases e1
      have hzm := List.mem_of_getElem? hz
      have hxm : z.1 ∈ ls := by rw [← HZ.out]; exact List.mem_map_of_mem hzm
      have hsr := zrow_flags hxr.1 hzm
      have hsh := HFL.out _ hxm
      have htx := HTL.out _ hxm
      have hdr : ls.drop k = z.1 :: ls.drop (k + 1) := by
        have h1 : ls[k]? = some z.1 := by rw [← HZ.out, List.getElem?_map, hz]; rfl
        obtain ⟨hk2, e⟩ := List.getElem?_eq_some_iff.1 h1
        rw [List.drop_eq_getElem_cons hk2, e]
      have hK := HK.out
      rw [hdr] at hK
      unfold boxRL at hK
      obtain ⟨⟨u, fl, dy, tx⟩, zv⟩ := z
      dsimp only at *
      subst e2
      have hltz : (k : Int) < (zs.length : Int) := by omega
      have hts := text_size tx
      have y5 := (Below.refl wr.heap.size wr).alloc (Nat.le_refl _) (.cells #[.int .i64 u, .slice xa fl.length xc, .int .i64 dy, .string ⟨tx.toArray⟩] 51)
      have x5 := World.heap_alloc_new wr (.cells #[.int .i64 u, .slice xa fl.length xc, .int .i64 dy, .string ⟨tx.toArray⟩] 51)
      obtain ⟨w5, hw5⟩ : ∃ w5, wr.alloc (.cells #[.int .i64 u, .slice xa fl.length xc, .int .i64 dy, .string ⟨tx.toArray⟩] 51) = w5 := ⟨_, rfl⟩
      rw [hw5] at y5 x5
      have HW5 := Lib.hid hw5
      obtain ⟨l0, l1, l2, l3⟩ := four_cells x5
      have Y5 := Lib.hid y5
      have X5 := Lib.hid x5
      have XB5 := Lib.hid (below_same y5 xb)
      have hsr5 := hsr.below y5
      have HS5 := Lib.hid hsr5
      clear hw5 y5 x5 hz hdr hzm hxm hsr k0 k1 k2 xb hxr
      cases hs : setF fl with
      | inl m =>
        have hX : R = false := by
          rw [hK, Bool.eq_false_iff.2 (fun h : letOk nx last ⟨u, fl, dy, tx⟩ = true => by rw [letOk_iff] at h; have := h.1; dsimp only at this; rw [hs] at this; cases this)]; rfl
        subst hX
        have cS := set_isnt hs _ w5 hsr5 hsh (HG.out.below (hbw.trans (Y5.out.mono hbw.size)))
        clear hK HK hs
        go_upto_region 6 with fail
        rw [show wr.alloc (.cells #[.int .i64 u, .slice xa fl.length xc, .int .i64 dy, .string ⟨tx.toArray⟩] 51) = w5 from HW5.out]
        go_wp2_with (go_at_call 16; go_loud (((with_reducible refine cS.mono ?_); rintro e w6 ⟨rfl, h⟩)))
        go_ret
        exact ⟨rfl, (hbw.trans (Y5.out.mono hbw.size)).trans (h.mono (hbw.trans (Y5.out.mono hbw.size)).size)⟩
      | inr f =>
        have cS := set_is2 hs _ w5 hsr5 hsh (HG.out.below (hbw.trans (Y5.out.mono hbw.size)))
        have hfl2 : f.length ≤ 1000000 := by have := (set_ok hs).2.2; omega
        have cQ := fun sv W (h1 : SRow W sv f) (h2 : SRow W (.slice xa fl.length xc) fl) => equal_all sv _ f fl W h1 h2 hfl2 (by have := hsh.1; omega)
        by_cases hff : f = fl
        · subst hff
          simp only [decide_true] at cQ
          by_cases q1 : u ≤ last
          · have hX : R = false := by rw [hK, Bool.eq_false_iff.2 (fun h : letOk nx last ⟨u, f, dy, tx⟩ = true => by rw [letOk_iff] at h; unfold maxN at h; dsimp only at h; omega)]; rfl
            subst hX
            clear hK HK hs
            go_upto_region 6 with fail
            rw [show wr.alloc (.cells #[.int .i64 u, .slice xa f.length xc, .int .i64 dy, .string ⟨tx.toArray⟩] 51) = w5 from HW5.out]
            go_wp2_with (first
              | (go_at_call 16; go_loud (((with_reducible refine cS.mono ?_); rintro e w6 ⟨sa, sc, rfl, hT, h⟩; have hx6 := below_same h X5.out; have hb6 := below_same h XB5.out; clear l0 l1 l2 l3; obtain ⟨l0, l1, l2, l3⟩ := four_cells hx6; have cQ1 := cQ _ w6 hT.out.1 (HS5.out.below h); have y6 := Y5.out.trans (h.mono Y5.out.size); clear h)))
              | (go_at_call 17; go_loud (((with_reducible refine cQ1.mono ?_); rintro e w7 ⟨rfl, h⟩; clear l0 l1 l2 l3; obtain ⟨l0, l1, l2, l3⟩ := four_cells (below_same h hx6); obtain ⟨k0, k1, k2⟩ := three_cells (below_same h hb6); have y7 := y6.trans (h.mono y6.size); clear h cQ1))))
            go_ret
            exact ⟨rfl, hbw.trans (y7.mono hbw.size)⟩
          by_cases q2 : nx ≤ u
          · have hX : R = false := by rw [hK, Bool.eq_false_iff.2 (fun h : letOk nx last ⟨u, f, dy, tx⟩ = true => by rw [letOk_iff] at h; unfold maxN at h; dsimp only at h; omega)]; rfl
            subst hX
            have q1z : ¬ u ≤ last := q1
            clear hK HK hs
            go_upto_region 6 with fail
            rw [show wr.alloc (.cells #[.int .i64 u, .slice xa f.length xc, .int .i64 dy, .string ⟨tx.toArray⟩] 51) = w5 from HW5.out]
            go_wp2_with (first
              | (go_at_call 16; go_loud (((with_reducible refine cS.mono ?_); rintro e w6 ⟨sa, sc, rfl, hT, h⟩; have hx6 := below_same h X5.out; have hb6 := below_same h XB5.out; clear l0 l1 l2 l3; obtain ⟨l0, l1, l2, l3⟩ := four_cells hx6; have cQ1 := cQ _ w6 hT.out.1 (HS5.out.below h); have y6 := Y5.out.trans (h.mono Y5.out.size); clear h)))
              | (go_at_call 17; go_loud (((with_reducible refine cQ1.mono ?_); rintro e w7 ⟨rfl, h⟩; clear l0 l1 l2 l3; obtain ⟨l0, l1, l2, l3⟩ := four_cells (below_same h hx6); obtain ⟨k0, k1, k2⟩ := three_cells (below_same h hb6); have y7 := y6.trans (h.mono y6.size); clear h cQ1))))
            go_ret
            exact ⟨rfl, hbw.trans (y7.mono hbw.size)⟩
          by_cases q3 : 0 ≤ dy ∧ dy ≤ 2147483647
          case neg =>
            have hX : R = false := by rw [hK, Bool.eq_false_iff.2 (fun h : letOk nx last ⟨u, f, dy, tx⟩ = true => by rw [letOk_iff] at h; unfold maxN at h; dsimp only at h; omega)]; rfl
            subst hX
            rcases Int.lt_or_le dy 0 with q5 | q5
            · clear hK HK hs
              go_upto_region 6 with fail
              rw [show wr.alloc (.cells #[.int .i64 u, .slice xa f.length xc, .int .i64 dy, .string ⟨tx.toArray⟩] 51) = w5 from HW5.out]
              go_wp2_with (first
                | (go_at_call 16; go_loud (((with_reducible refine cS.mono ?_); rintro e w6 ⟨sa, sc, rfl, hT, h⟩; have hx6 := below_same h X5.out; have hb6 := below_same h XB5.out; clear l0 l1 l2 l3; obtain ⟨l0, l1, l2, l3⟩ := four_cells hx6; have cQ1 := cQ _ w6 hT.out.1 (HS5.out.below h); have y6 := Y5.out.trans (h.mono Y5.out.size); clear h)))
                | (go_at_call 17; go_loud (((with_reducible refine cQ1.mono ?_); rintro e w7 ⟨rfl, h⟩; clear l0 l1 l2 l3; obtain ⟨l0, l1, l2, l3⟩ := four_cells (below_same h hx6); obtain ⟨k0, k1, k2⟩ := three_cells (below_same h hb6); have y7 := y6.trans (h.mono y6.size); clear h cQ1))))
              go_ret
              exact ⟨rfl, hbw.trans (y7.mono hbw.size)⟩
            · have q5z : ¬ dy < 0 := by omega
              have q6 : 2147483647 < dy := by omega
              clear hK HK hs
              go_upto_region 6 with fail
              rw [show wr.alloc (.cells #[.int .i64 u, .slice xa f.length xc, .int .i64 dy, .string ⟨tx.toArray⟩] 51) = w5 from HW5.out]
              go_wp2_with (first
                | (go_at_call 16; go_loud (((with_reducible refine cS.mono ?_); rintro e w6 ⟨sa, sc, rfl, hT, h⟩; have hx6 := below_same h X5.out; have hb6 := below_same h XB5.out; clear l0 l1 l2 l3; obtain ⟨l0, l1, l2, l3⟩ := four_cells hx6; have cQ1 := cQ _ w6 hT.out.1 (HS5.out.below h); have y6 := Y5.out.trans (h.mono Y5.out.size); clear h)))
                | (go_at_call 17; go_loud (((with_reducible refine cQ1.mono ?_); rintro e w7 ⟨rfl, h⟩; clear l0 l1 l2 l3; obtain ⟨l0, l1, l2, l3⟩ := four_cells (below_same h hx6); obtain ⟨k0, k1, k2⟩ := three_cells (below_same h hb6); have y7 := y6.trans (h.mono y6.size); clear h cQ1))))
              go_ret
              exact ⟨rfl, hbw.trans (y7.mono hbw.size)⟩
          have q5 : ¬ dy < 0 := by omega
          have q6 : ¬ 2147483647 < dy := by omega
          by_cases q4 : 2000 < tx.length
          · have hX : R = false := by rw [hK, Bool.eq_false_iff.2 (fun h : letOk nx last ⟨u, f, dy, tx⟩ = true => by rw [letOk_iff] at h; unfold maxN at h; dsimp only at h; omega)]; rfl
            subst hX
            have q4z : (2000 : Int) < (tx.length : Int) := by omega
            clear hK HK hs
            go_upto_region 6 with fail
            rw [show wr.alloc (.cells #[.int .i64 u, .slice xa f.length xc, .int .i64 dy, .string ⟨tx.toArray⟩] 51) = w5 from HW5.out]
            go_wp2_with (first
              | (go_at_call 16; go_loud (((with_reducible refine cS.mono ?_); rintro e w6 ⟨sa, sc, rfl, hT, h⟩; have hx6 := below_same h X5.out; have hb6 := below_same h XB5.out; clear l0 l1 l2 l3; obtain ⟨l0, l1, l2, l3⟩ := four_cells hx6; have cQ1 := cQ _ w6 hT.out.1 (HS5.out.below h); have y6 := Y5.out.trans (h.mono Y5.out.size); clear h)))
              | (go_at_call 17; go_loud (((with_reducible refine cQ1.mono ?_); rintro e w7 ⟨rfl, h⟩; clear l0 l1 l2 l3; obtain ⟨l0, l1, l2, l3⟩ := four_cells (below_same h hx6); obtain ⟨k0, k1, k2⟩ := three_cells (below_same h hb6); have y7 := y6.trans (h.mono y6.size); clear h cQ1))))
            go_ret
            exact ⟨rfl, hbw.trans (y7.mono hbw.size)⟩
          have q4z : ¬ (2000 : Int) < (tx.length : Int) := by omega
          have HK2 : Hid (R = (boxRL nx u (ls.drop (k + 1)) && REST)) := by
            show _ = _
            rw [hK, show letOk nx last ⟨u, f, dy, tx⟩ = true from letOk_iff.2 ⟨hs, by dsimp only; omega, by dsimp only; omega, q3.1, by unfold maxN; exact q3.2, by dsimp only; omega⟩, Bool.true_and]
          clear hK HK hs
          go_upto_region 6 with fail
          rw [show wr.alloc (.cells #[.int .i64 u, .slice xa f.length xc, .int .i64 dy, .string ⟨tx.toArray⟩] 51) = w5 from HW5.out]
          go_wp2_with (first
            | (go_at_call 16; go_loud (((with_reducible refine cS.mono ?_); rintro e w6 ⟨sa, sc, rfl, hT, h⟩; have hx6 := below_same h X5.out; have hb6 := below_same h XB5.out; clear l0 l1 l2 l3; obtain ⟨l0, l1, l2, l3⟩ := four_cells hx6; have cQ1 := cQ _ w6 hT.out.1 (HS5.out.below h); have y6 := Y5.out.trans (h.mono Y5.out.size); clear h)))
            | (go_at_call 17; go_loud (((with_reducible refine cQ1.mono ?_); rintro e w7 ⟨rfl, h⟩; clear l0 l1 l2 l3; obtain ⟨l0, l1, l2, l3⟩ := four_cells (below_same h hx6); obtain ⟨k0, k1, k2⟩ := three_cells (below_same h hb6); have y7 := y6.trans (h.mono y6.size); clear h cQ1))))
          go_roundg g'
          case measure => omega
          case rel => exact ⟨k + 1, u, by omega, rfl, by go_num, hbr.trans (y7.mono hbr.size), HK2.out⟩
        · have hX : R = false := by
            rw [hK, Bool.eq_false_iff.2 (fun h : letOk nx last ⟨u, fl, dy, tx⟩ = true => by rw [letOk_iff] at h; have := h.1; dsimp only at this; rw [hs] at this; exact hff (Sum.inr.inj this))]; rfl
          subst hX
          rw [decide_eq_false hff] at cQ
          clear hK HK hs hff
          go_upto_region 6 with fail
          rw [show wr.alloc (.cells #[.int .i64 u, .slice xa fl.length xc, .int .i64 dy, .string ⟨tx.toArray⟩] 51) = w5 from HW5.out]
          go_wp2_with (first
            | (go_at_call 16; go_loud (((with_reducible refine cS.mono ?_); rintro e w6 ⟨sa, sc, rfl, hT, h⟩; have hx6 := below_same h X5.out; have hb6 := below_same h XB5.out; clear l0 l1 l2 l3; obtain ⟨l0, l1, l2, l3⟩ := four_cells hx6; have cQ1 := cQ _ w6 hT.out.1 (HS5.out.below h); have y6 := Y5.out.trans (h.mono Y5.out.size); clear h)))
            | (go_at_call 17; go_loud (((with_reducible refine cQ1.mono ?_); rintro e w7 ⟨rfl, h⟩; clear l0 l1 l2 l3; obtain ⟨l0, l1, l2, l3⟩ := four_cells (below_same h hx6); obtain ⟨k0, k1, k2⟩ := three_cells (below_same h hb6); have y7 := y6.trans (h.mono y6.size); clear h cQ1))))
          go_ret
          exact ⟨rfl, hbw.trans (y7.mono hbw.size)⟩
    · have hd0 : ls.drop k = [] := List.drop_eq_nil_of_le (by have := HLEN.out; omega)
      have hX : R = REST := by rw [HK.out, hd0]; unfold boxRL; rw [Bool.true_and]
      have hlz : decide (ls.length ≤ 60) = decide ((zs.length : Int) ≤ 60) := by
        have := HLEN.out
        by_cases h : ls.length ≤ 60
        · rw [decide_eq_true h, decide_eq_true (by omega)]
        · rw [decide_eq_false h, decide_eq_false (by omega)]
      rw [← HREST.out, hlz] at hX
      have HXR := Lib.hid hX
      clear hlz HK hX
      have cI := fun n W => bnum_any n W
      cases hv1 : numB vd with
      | false =>
        have cI1 := fun W => hv1 ▸ cI vd W
        go_wp2_with (go_at_call 15; go_loud (((with_reducible refine (cI1 _).mono ?_); rintro e w6 ⟨rfl, rfl⟩)))
        go_ret
        exact ⟨by rw [HXR.out, hv1]; rfl, hbw⟩
      | true =>
        have cI1 := fun W => hv1 ▸ cI vd W
        cases hv2 : numB nx with
        | false =>
          have cI2 := fun W => hv2 ▸ cI nx W
          go_wp2_with (first
            | (go_at_call 15; ((with_reducible refine (cI1 _).mono ?_); rintro e w6 ⟨rfl, rfl⟩))
            | (go_at_call 15; ((with_reducible refine (cI2 _).mono ?_); rintro e w6 ⟨rfl, rfl⟩)))
          go_ret
          exact ⟨by rw [HXR.out, hv1, hv2]; rfl, hbw⟩
        | true =>
          have cI2 := fun W => hv2 ▸ cI nx W
          go_wp2_with (first
            | (go_at_call 15; ((with_reducible refine (cI1 _).mono ?_); rintro e w6 ⟨rfl, rfl⟩))
            | (go_at_call 15; ((with_reducible refine (cI2 _).mono ?_); rintro e w6 ⟨rfl, rfl⟩)))
          go_ret
          exact ⟨by rw [HXR.out, hv1, hv2]; rfl, hbw⟩
end Go.Proofs.YteclajckkjocnaaGreatDoor
