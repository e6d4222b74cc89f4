/- The walk over the reference's Expunge, at the law's closure. Condition: the closure's contract. -/
import Derived.Deep.RegionHeld3
import Derived.Test.YteclajckkjocnaaGreatDoorPkRFlagA
import Derived.Test.YteclajckkjocnaaGreatDoorPkRBoxG
namespace Go.Proofs.YteclajckkjocnaaGreatDoor
open Go.RowKit Go.Shelf Go.Sort
set_option linter.unusedSimpArgs false
set_option linter.unusedSimpArgs false
theorem below_eq {w w' : World} (h : w = w') : Below w.heap.size w w' := h ▸ Below.refl _ _
theorem zrow_one {w : World} {x : Let} {fv : Value} (hf : SRow w fv x.flags) : ZRow (w.alloc (.cells #[.int .i64 x.uid, fv, .int .i64 x.day, .string ⟨x.text.toArray⟩] 51)) (.slice (some ⟨w.heap.size, 0, none⟩) 1 1) [(x, fv)] := by
  have hb := (Below.refl w.heap.size w).alloc (Nat.le_refl _) (.cells #[.int .i64 x.uid, fv, .int .i64 x.day, .string ⟨x.text.toArray⟩] 51)
  have hz := World.heap_alloc_new w (.cells #[.int .i64 x.uid, fv, .int .i64 x.day, .string ⟨x.text.toArray⟩] 51)
  refine ⟨some ⟨w.heap.size, 0, none⟩, 1, rfl, Nat.le_refl _, ⟨by decide, fun e => by cases e⟩, fun z hz => ?_, fun j u hj => ⟨w.heap.size, 0, rfl, (Array.getElem?_eq_some_iff.1 hz).1, ?_⟩⟩
  · obtain rfl := List.mem_singleton.1 hz
    exact hf.below hb
  · rw [Nat.zero_add, Lib.cell_of_heap hz]
    simpa [cellsL, cells1] using hj
set_option maxRecDepth 100000 in
set_option maxHeartbeats 8000000 in
theorem rexp_any (X : Nat) (N C : Nat) (b : BoxP) (hol : Int → Bool) (w : World) (hb : RBoxS N w C b) (hN : N ≤ C) (hfl : ∀ x ∈ b.ls, x.flags.length ≤ 1000000) (hll : b.ls.length ≤ 1000000)
    (hcl : ∀ x ∈ b.ls, ∀ (W : World), Below w.heap.size w W → Calls Tryz.prog 28 #[.int .i64 x.uid, .pointer (some ⟨X, 0, none⟩)] W fun e w' => e = .returned (.bool (hol x.uid)) ∧ W = w') :
    Calls Tryz.prog 31 #[.pointer (some ⟨C, 0, none⟩), .func (.func 28) #[] #[.pointer (some ⟨X, 0, none⟩)]] w fun e w' => ∃ ov, e = .returned ov ∧ w'.ownsRow w.heap.size 3 1 ov (expB b hol).1.length ((expB b hol).1.map (Value.int .i64)) ∧ RBoxS N w' C (expB b hol).2 ∧ Kept (fun k => k = C) w w' ∧ FreshL w w' C := by
  obtain ⟨lv, zs, hC, hzs, hx⟩ := hb
  obtain ⟨ao, cap, rfl, _⟩ := hx.1
  have hCl : C < w.heap.size := (Array.getElem?_eq_some_iff.1 hC).1
  obtain ⟨d0, d1, d2⟩ := three_cells hC
  have hzl : zs.length ≤ 1000000 := by rw [← hzs, List.length_map] at hll; exact hll
  have HC := Lib.hid hC
  have HZ := Lib.hid hzs
  have HX := Lib.hid hx
  have HL := Lib.hid hfl
  have HCL := Lib.hid hcl
  have c5 := fun W => five_any3 W
  clear hC hfl hcl hx
  rw [← hzs] at hll
  go_enter Tryz.func31, Tryz.ntmps31
  go_wp2_with fail
  go_loopg [5, 6, 14] zs.length (fun g s5 s6 s14 wr => ∃ (k : Nat) (ov lw : Value) (outs : List Int) (lefts : List (Let × Value)), k + g = zs.length ∧ s14 = .int .i64 (k : Int) ∧ ov = s5 ∧ lw = s6 ∧ outs.length ≤ k ∧ lefts.length ≤ k ∧ wr.ownsRow w.heap.size 3 1 ov outs.length (outs.map (Value.int .i64)) ∧ wr.ownsRow w.heap.size 51 4 lw lefts.length (cellsL lefts) ∧ Below w.heap.size w wr ∧
    Hid (outs = (((zs.take k).map (·.1)).filter (goesB hol)).map (·.uid) ∧ lefts = (zs.take k).filter (fun z => !goesB hol z.1)))
  case atStart => exact ⟨0, _, _, [], [], by omega, rfl, rfl, rfl, Nat.le_refl _, Nat.le_refl _, World.ownsRow_nil _ _ _ _, World.ownsRow_nil _ _ _ _, Below.refl _ _, rfl, rfl⟩
  case round =>
    obtain ⟨k, ov, lw, outs, lefts, hk, rfl, rfl, rfl, hol1, hll1, ho, hlo, hbr, HR⟩ := hrel
    by_cases hlt : k < zs.length
    · obtain ⟨g', rfl⟩ : ∃ g', gk = g' + 1 := ⟨gk - 1, by omega⟩
      obtain ⟨z, hzk⟩ : ∃ z, zs[k]? = some z := ⟨zs[k], List.getElem?_eq_getElem hlt⟩
      obtain ⟨p, off, xa, xc, cap', e1, e2, c0, c1, c2, c3⟩ := xrow_at (HX.out.below hbr) hzk
      cases e1
      have hzm := List.mem_of_getElem? hzk
      have hzf := zrow_flags (HX.out.below hbr).1 hzm
      have hzl2 : z.1.flags.length ≤ 1000000 := HL.out z.1 (by rw [← HZ.out]; exact List.mem_map_of_mem hzm)
      have hkz : (k : Int) < (zs.length : Int) := by omega
      have htk : zs.take (k + 1) = zs.take k ++ [z] := by
        rw [List.take_add_one, hzk]; rfl
      have hgo : Hid ((goesB hol z.1 = true → outs ++ [z.1.uid] = (((zs.take (k + 1)).map (·.1)).filter (goesB hol)).map (·.uid) ∧ lefts = (zs.take (k + 1)).filter (fun z => !goesB hol z.1)) ∧ (goesB hol z.1 = false → outs = (((zs.take (k + 1)).map (·.1)).filter (goesB hol)).map (·.uid) ∧ lefts ++ [z] = (zs.take (k + 1)).filter (fun z => !goesB hol z.1))) := by
        refine ⟨fun h => ?_, fun h => ?_⟩
        · rw [htk, HR.out.1, HR.out.2]
          simp [List.filter_append, h]
        · rw [htk, HR.out.1, HR.out.2]
          simp [List.filter_append, h]
      have cK := HCL.out z.1 (by rw [← HZ.out]; exact List.mem_map_of_mem hzm)
      obtain ⟨⟨u, fl, dy, tx⟩, zv⟩ := z
      dsimp only at e2 c0 c1 c2 c3 hzf hzl2 hgo cK
      subst e2
      have hgb : goesB hol ⟨u, fl, dy, tx⟩ = (decide ([92, 68, 101, 108, 101, 116, 101, 100] ∈ fl) && hol u) := rfl
      rw [hgb] at hgo
      have HG := Lib.hid hgo.out
      have y5 := (Below.refl wr.heap.size wr).alloc (Nat.le_refl _) (.cells #[.int .i64 u, .slice xa fl.length xc, .int .i64 dy, .string ⟨tx.toArray⟩] 51)
      have x5 := World.heap_alloc_new wr (.cells #[.int .i64 u, .slice xa fl.length xc, .int .i64 dy, .string ⟨tx.toArray⟩] 51)
      have ho5 := ho.alloc (.cells #[.int .i64 u, .slice xa fl.length xc, .int .i64 dy, .string ⟨tx.toArray⟩] 51)
      have hlo5 := hlo.alloc (.cells #[.int .i64 u, .slice xa fl.length xc, .int .i64 dy, .string ⟨tx.toArray⟩] 51)
      obtain ⟨w5, hw5⟩ : ∃ w5, wr.alloc (.cells #[.int .i64 u, .slice xa fl.length xc, .int .i64 dy, .string ⟨tx.toArray⟩] 51) = w5 := ⟨_, rfl⟩
      rw [hw5] at y5 x5 ho5 hlo5
      have HW5 := Lib.hid hw5
      have Y5 := Lib.hid (hbr.trans (y5.mono hbr.size))
      have HFL := Lib.hid (show ∀ W, Below w5.heap.size w5 W → SRow W (.slice xa fl.length xc) fl from fun W h => (hzf.below y5).below h)
      have KEEP := Lib.hid (show ∀ W, Below w5.heap.size w5 W → (fun W => W.cell? ⟨wr.heap.size, 0, none⟩ = some (.int .i64 u) ∧ W.cell? ⟨wr.heap.size, 1, none⟩ = some (.slice xa fl.length xc)) W from fun W h => by
        obtain ⟨l0, l1, -, -⟩ := four_cells (below_same h x5)
        exact ⟨l0, l1⟩)
      have X5 := Lib.hid x5
      have HO5 := Lib.hid ho5
      have HLO5 := Lib.hid hlo5
      obtain ⟨D, hD⟩ : ∃ D, decide (([92, 68, 101, 108, 101, 116, 101, 100] : List UInt8) ∈ fl) = D := ⟨_, rfl⟩
      have cD := fun W (h : SRow W (.slice xa fl.length xc) fl) => rholds_any (.slice xa fl.length xc) fl [92, 68, 101, 108, 101, 116, 101, 100] W h hzl2
      rw [hD] at HG cD
      obtain ⟨H, hH⟩ : ∃ H, hol u = H := ⟨_, rfl⟩
      rw [hH] at HG cK
      have cK2 := fun W (h : Below w5.heap.size w5 W) => cK W (Y5.out.trans (h.mono Y5.out.size))
      clear hw5 y5 x5
      go_upto_region 6 with fail
      rw [show wr.alloc (.cells #[.int .i64 u, .slice xa fl.length xc, .int .i64 dy, .string ⟨tx.toArray⟩] 51) = w5 from HW5.out]
      clear hzk hzm hzf hgb hgo htk hlo ho ho5 hlo5 HR cK hD hH c0 c1 c2 c3
      cases D with
      | false =>
        have HQ := Lib.hid (HG.out.2 (by rfl))
        clear HG
        have yd := (Below.refl w5.heap.size w5).drew
        refine wp_region_held_drew (S := fun W => W.cell? ⟨wr.heap.size, 0, none⟩ = some (.int .i64 u) ∧ W.cell? ⟨wr.heap.size, 1, none⟩ = some (.slice xa fl.length xc)) (by kernel_rfl) (KEEP.out _ yd) (fun hHeld => ?_)
        generalize w5.drew = wd at *
        refine wpAnyH_take (i := 0) (oi := ⟨_, _, _, _, _, _⟩) (v := ?hv1) rfl (by kernel_rfl) (by kernel_rfl) (by kernel_rfl) (fun _ _ _ h => h) (Or.inl ⟨by rfl, ?hy1⟩) hHeld ?hr1
        case hy1 => (intro W hSw; (try dsimp only at hSw); go_simp; try with_reducible rfl)
        try simp only [Act.put, List.setIfInBounds_toArray, List.set_cons_zero, List.set_cons_succ]
        refine wpAnyH_take (i := 1) (oi := ⟨_, _, _, _, _, _⟩) (v := ?hv2) rfl (by kernel_rfl) (by kernel_rfl) (by kernel_rfl) (fun _ _ _ h => h) (Or.inl ⟨by rfl, ?hy2⟩) hHeld ?hr2
        case hy2 => (intro W hSw; (try dsimp only at hSw); go_simp; try with_reducible rfl)
        try simp only [Act.put, List.setIfInBounds_toArray, List.set_cons_zero, List.set_cons_succ]
        refine wpAnyH_ready (rs := [2]) (by kernel_rfl) (by simp) ?_
        refine AllReadyH.cons (o := ⟨_, _, _, _, _, _⟩) rfl (fun K hK => ?hs3) ?hm3
        case hs3 =>
          go_simp
          (with_reducible refine (c5 _).mono ?_)
          rintro e u1 ⟨rfl, h1⟩; have h1 := below_eq h1
          have y1 := yd.trans (h1.mono yd.size)
          go_wp2_with fail
          refine hK.out _ _ ?hS3 (fun hHeld => ?hR3)
          case hS3 => exact KEEP.out _ y1
          clear hK K
          try simp only [Act.put, List.setIfInBounds_toArray, List.set_cons_zero, List.set_cons_succ]
          refine wpAnyH_ready (rs := [3]) (by kernel_rfl) (by simp) ?_
          refine AllReadyH.cons (o := ⟨_, _, _, _, _, _⟩) rfl (fun K hK => ?hs4) ?hm4
          case hs4 =>
            go_simp
            (with_reducible refine (cD _ (HFL.out _ y1)).mono ?_)
            rintro e u2 ⟨rfl, h2⟩; have h2 := below_eq h2
            have y2 := y1.trans (h2.mono y1.size)
            go_wp2_with fail
            refine hK.out _ _ ?hS4 (fun hHeld => ?hR4)
            case hS4 => exact KEEP.out _ y2
            clear hK K
            try simp only [Act.put, List.setIfInBounds_toArray, List.set_cons_zero, List.set_cons_succ]
            refine wpAnyH_take (i := 4) (oi := ⟨_, _, _, _, _, _⟩) (v := ?hv5) rfl (by kernel_rfl) (by kernel_rfl) (by kernel_rfl) (fun _ _ _ h => h) (Or.inl ⟨by rfl, ?hy5⟩) hHeld ?hr5
            case hy5 => (intro W hSw; (try dsimp only at hSw); go_simp; try with_reducible rfl)
            try simp only [Act.put, List.setIfInBounds_toArray, List.set_cons_zero, List.set_cons_succ]
            refine wpAnyH_take (i := 5) (oi := ⟨_, _, _, _, _, _⟩) (v := undef) rfl (by kernel_rfl) (by kernel_rfl) (by kernel_rfl) (fun _ _ _ h => h) (Or.inr ⟨by rfl, rfl⟩) hHeld ?hr6
            try simp only [Act.put, List.setIfInBounds_toArray, List.set_cons_zero, List.set_cons_succ]
            refine wpAnyH_take (i := 6) (oi := ⟨_, _, _, _, _, _⟩) (v := undef) rfl (by kernel_rfl) (by kernel_rfl) (by kernel_rfl) (fun _ _ _ h => h) (Or.inr ⟨by rfl, rfl⟩) hHeld ?hr7
            try simp only [Act.put, List.setIfInBounds_toArray, List.set_cons_zero, List.set_cons_succ]
            refine wpAnyH_take (i := 7) (oi := ⟨_, _, _, _, _, _⟩) (v := undef) rfl (by kernel_rfl) (by kernel_rfl) (by kernel_rfl) (fun _ _ _ h => h) (Or.inr ⟨by rfl, rfl⟩) hHeld ?hr8
            try simp only [Act.put, List.setIfInBounds_toArray, List.set_cons_zero, List.set_cons_succ]
            refine wpAnyH_take (i := 8) (oi := ⟨_, _, _, _, _, _⟩) (v := undef) rfl (by kernel_rfl) (by kernel_rfl) (by kernel_rfl) (fun _ _ _ h => h) (Or.inr ⟨by rfl, rfl⟩) hHeld ?hr9
            try simp only [Act.put, List.setIfInBounds_toArray, List.set_cons_zero, List.set_cons_succ]
            refine wpAnyH_take (i := 9) (oi := ⟨_, _, _, _, _, _⟩) (v := ?hv10) rfl (by kernel_rfl) (by kernel_rfl) (by kernel_rfl) (fun _ _ _ h => h) (Or.inl ⟨by rfl, ?hy10⟩) hHeld ?hr10
            case hy10 => (intro W hSw; (try dsimp only at hSw); go_simp; try with_reducible rfl)
            try simp only [Act.put, List.setIfInBounds_toArray, List.set_cons_zero, List.set_cons_succ]
            refine wpAnyH_done (by kernel_rfl) ?_ _
            have yU := Y5.out.trans (y2.mono Y5.out.size)
            have hoU := owns_below HO5.out y2
            have hloU := owns_below HLO5.out y2
            obtain ⟨l0, l1, l2, l3⟩ := four_cells (below_same y2 X5.out)
            have yV := yU.alloc yU.size (.cells #[.int .i64 u, .slice xa fl.length xc, .int .i64 dy, .string ⟨tx.toArray⟩] 51)
            have zV := zrow_one (x := ⟨u, fl, dy, tx⟩) (HFL.out _ y2)
            have hloV := hloU.alloc (.cells #[.int .i64 u, .slice xa fl.length xc, .int .i64 dy, .string ⟨tx.toArray⟩] 51)
            have hoV := hoU.alloc (.cells #[.int .i64 u, .slice xa fl.length xc, .int .i64 dy, .string ⟨tx.toArray⟩] 51)
            have hltU := hloU.lt
            go_wp2_with (at_builtin; go_must (refine wpList_appL rfl _ _ rfl w.heap.size lw lefts _ rfl hloV _ [((⟨u, fl, dy, tx⟩ : Let), Value.slice xa fl.length xc)] 1 rfl zV ?k1 yV.size ?_))
            case k1 => first | omega | (simp; omega)
            intro v' w2 o2 g2
            have y2 := yV.grown g2 yV.size (fun j h => (hltU j h).1)
            have o4 := owns_grown hoU hloU g2 (by decide)
            clear hloV hoV zV
            go_wp2_with fail
            go_roundg g'
            case measure => omega
            case rel => exact ⟨k + 1, ov, v', outs, lefts ++ [((⟨u, fl, dy, tx⟩ : Let), Value.slice xa fl.length xc)], by omega, by go_num, rfl, rfl, by omega, by rw [List.length_append]; simp; omega, o4, by rw [List.length_append]; exact o2, y2, HQ.out⟩
            
          case hm4 => exact AllReadyH.nil
        case hm3 => exact AllReadyH.nil
      | true =>
        have hb := (Below.refl w5.heap.size w5).drew
        cases H with
        | false =>
          have HQ := Lib.hid (HG.out.2 (by rfl))
          clear HG
          go_region_held3 (fun W => W.cell? ⟨wr.heap.size, 0, none⟩ = some (.int .i64 u) ∧ W.cell? ⟨wr.heap.size, 1, none⟩ = some (.slice xa fl.length xc))
            (first | exact KEEP.out _ hb)
            (first
              | (go_at_call 57; with_reducible refine (c5 _).mono ?_; rintro e w6 ⟨rfl, rfl⟩)
              | (go_at_call 56; with_reducible refine (cD _ (HFL.out _ hb)).mono ?_; rintro e w7 ⟨rfl, rfl⟩)
              | (go_at_call 28; with_reducible refine (cK2 _ hb).mono ?_; rintro e w8 ⟨rfl, rfl⟩))
          have yU := Y5.out.trans (hb.mono Y5.out.size)
          have hoU := owns_below HO5.out hb
          have hloU := owns_below HLO5.out hb
          obtain ⟨l0, l1, l2, l3⟩ := four_cells (below_same hb X5.out)
          have yV := yU.alloc yU.size (.cells #[.int .i64 u, .slice xa fl.length xc, .int .i64 dy, .string ⟨tx.toArray⟩] 51)
          have zV := zrow_one (x := ⟨u, fl, dy, tx⟩) (HFL.out _ hb)
          have hloV := hloU.alloc (.cells #[.int .i64 u, .slice xa fl.length xc, .int .i64 dy, .string ⟨tx.toArray⟩] 51)
          have hoV := hoU.alloc (.cells #[.int .i64 u, .slice xa fl.length xc, .int .i64 dy, .string ⟨tx.toArray⟩] 51)
          have hltU := hloU.lt
          go_wp2_with (at_builtin; go_must (refine wpList_appL rfl _ _ rfl w.heap.size lw lefts _ rfl hloV _ [((⟨u, fl, dy, tx⟩ : Let), Value.slice xa fl.length xc)] 1 rfl zV ?k1 yV.size ?_))
          case k1 => first | omega | (simp; omega)
          intro v' w2 o2 g2
          have y2 := yV.grown g2 yV.size (fun j h => (hltU j h).1)
          have o4 := owns_grown hoU hloU g2 (by decide)
          clear hloV hoV zV
          go_wp2_with fail
          go_roundg g'
          case measure => omega
          case rel => exact ⟨k + 1, ov, v', outs, lefts ++ [((⟨u, fl, dy, tx⟩ : Let), Value.slice xa fl.length xc)], by omega, by go_num, rfl, rfl, by omega, by rw [List.length_append]; simp; omega, o4, by rw [List.length_append]; exact o2, y2, HQ.out⟩
        | true =>
          have HQ := Lib.hid (HG.out.1 (by rfl))
          clear HG
          go_region_held3 (fun W => W.cell? ⟨wr.heap.size, 0, none⟩ = some (.int .i64 u) ∧ W.cell? ⟨wr.heap.size, 1, none⟩ = some (.slice xa fl.length xc))
            (first | exact KEEP.out _ hb)
            (first
              | (go_at_call 57; with_reducible refine (c5 _).mono ?_; rintro e w6 ⟨rfl, rfl⟩)
              | (go_at_call 56; with_reducible refine (cD _ (HFL.out _ hb)).mono ?_; rintro e w7 ⟨rfl, rfl⟩)
              | (go_at_call 28; with_reducible refine (cK2 _ hb).mono ?_; rintro e w8 ⟨rfl, rfl⟩))
          have yU := Y5.out.trans (hb.mono Y5.out.size)
          have hoU := owns_below HO5.out hb
          have hloU := owns_below HLO5.out hb
          obtain ⟨l0, l1, l2, l3⟩ := four_cells (below_same hb X5.out)
          have hltU := hoU.lt
          go_wp2_with (at_builtin; go_must (refine wpList_app1 rfl _ _ 46 rfl 3 Tryz.underlying46 int_info rfl w.heap.size _ _ _ _ rfl hoU _ rfl rfl ?hn (by decide) yU.size ?_))
          case hn => first | omega | (simp; omega)
          intro v' w2 o2 g2 hv2
          have y2 := below_app yU yU.size hoU g2
          have o4 := owns_grown hloU hoU g2 (by decide)
          have o3 : w2.ownsRow w.heap.size 3 1 v' (outs ++ [u]).length ((outs ++ [u]).map (Value.int .i64)) := by
            rw [List.length_append, List.map_append]; exact o2
          go_wp2_with fail
          go_roundg g'
          case measure => omega
          case rel => exact ⟨k + 1, v', lw, outs ++ [u], lefts, by omega, by go_num, rfl, rfl, by rw [List.length_append]; simp; omega, by omega, o3, o4, y2, HQ.out⟩
    · obtain rfl : k = zs.length := by omega
      have hR := HR.out
      rw [List.take_length] at hR
      have HR2 := Lib.hid hR
      have hCr := (hbr.block C hCl).trans HC.out
      have fB : wr.frozen? ⟨C, 2, none⟩ = false := Lib.frozen_of_heap hCr 2
      have dB := (three_cells hCr).2.2
      have HBR := Lib.hid hCr
      have hlt3 := ho.lt
      have hlt4 := hlo.lt
      obtain ⟨la, lc, rfl⟩ := owns_val hlo
      clear hR HR hCr
      go_wp2_with fail
      go_ret
      have e1 : (expB b hol).1 = outs := by
        rw [HR2.out.1, HZ.out]; rfl
      have hlen : lefts.map (·.1) = (expB b hol).2.ls := by
        rw [HR2.out.2]
        show _ = b.ls.filter (fun x => !goesB hol x)
        rw [← HZ.out, List.filter_map]
        rfl
      have hgw : wr.grownBy (wr.setCell ⟨C, 2, none⟩ (.slice la lefts.length lc)) (some C) := ⟨rfl, rfl, rfl, by rw [set_size]; exact Nat.le_refl _, fun j hj hs => Below.heap_setCell wr _ _ j (fun e => hs (by rw [e]))⟩
      have hnB : ∀ v : Value, (∀ j, v.ownBlock = some j → w.heap.size ≤ j ∧ j < wr.heap.size) → v.ownBlock = none ∨ v.ownBlock ≠ some C := fun v h => Or.inr (fun e => by have := (h C e).1; omega)
      have hlo2 := hlo.kept hgw (hnB _ hlt4)
      have hKw : Kept (fun k => k = C) w (wr.setCell ⟨C, 2, none⟩ (.slice la lefts.length lc)) := Kept.setB (kept_below hbr) _
      have hmem : ∀ z ∈ lefts, z ∈ zs := fun z hz => by rw [HR2.out.2] at hz; exact (List.mem_filter.1 hz).1
      have hsp : Spares N w (fun k => k = C) := spares_at HC.out hN (by decide) (by decide)
      rw [e1]
      refine ⟨_, rfl, ho.kept hgw (hnB _ hlt3), ⟨_, lefts, set3_2 HBR.out, hlen, zrow_owns hlo2 (fun z hz => ?_), safe_owns hlo2, fun z hz => ?_⟩, hKw, freshL_new (set3_2 HBR.out) (fun j hj => (hlt4 j hj).1)⟩
      · exact (zrow_flags HX.out.1 (hmem z hz)).kept (HX.out.2.2 z (hmem z hz)) hKw hsp
      · exact (HX.out.2.2 z (hmem z hz)).kept hKw hsp
end Go.Proofs.YteclajckkjocnaaGreatDoor
