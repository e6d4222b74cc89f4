/- The walk over a box's Expunge, at one closure. Condition: the closure's contract. -/
import Derived.Test.YteclajckkjocnaaGreatDoorPkRBoxH
namespace Go.Proofs.YteclajckkjocnaaGreatDoor
open Go.RowKit Go.Shelf Go.Sort
set_option linter.unusedSimpArgs false
/-- which letters the law's closure holds of -/
def holP (n uid : Int) : Bool := decide (n.tmod 2 = 0) || decide (uid.tmod 2 = 0)
set_option maxRecDepth 100000 in
set_option maxHeartbeats 1000000 in
theorem posts1_any (n uid : Int) (X : Nat) (w : World) (h : w.cell? ⟨X, 2, none⟩ = some (.int .i64 n)) :
    Calls Tryz.prog 28 #[.int .i64 uid, .pointer (some ⟨X, 0, none⟩)] w fun e w' => e = .returned (.bool (holP n uid)) ∧ w = w' := by
  unfold holP
  by_cases hn : n.tmod 2 = 0
  · rw [decide_eq_true hn, Bool.true_or]
    have h2 : (n.tmod 2 == 0) = true := by rw [beq_iff_eq]; exact hn
    go_enter Tryz.func28, Tryz.ntmps28
    go_wp2_with fail
    all_goals go_ret
    all_goals exact ⟨rfl, rfl⟩
  · rw [decide_eq_false hn, Bool.false_or]
    have h2 : (n.tmod 2 == 0) = false := by rw [beq_eq_false_iff_ne]; exact hn
    go_enter Tryz.func28, Tryz.ntmps28
    go_wp2_with fail
    all_goals go_ret
    all_goals exact ⟨rfl, rfl⟩
set_option maxRecDepth 100000 in
set_option maxHeartbeats 8000000 in
theorem exp_posts (X : Nat) (N B : Nat) (b : BoxP) (hol : Int → Bool) (w : World) (hb : BoxS N w B b) (hN : N ≤ B) (hfl : ∀ x ∈ b.ls, x.flags.length ≤ 1000000) (hll : b.ls.length ≤ 1000000)
    (hcl : ∀ x ∈ b.ls, ∀ (W : World), Below w.heap.size w W → Calls Tryz.prog 28 #[.int .i64 x.uid, .pointer (some ⟨X, 0, none⟩)] W fun e w' => e = .returned (.bool (hol x.uid)) ∧ W = w') :
    Calls Tryz.prog 30 #[.pointer (some ⟨B, 0, none⟩), .func (.func 28) #[] #[.pointer (some ⟨X, 0, none⟩)]] w fun e w' => ∃ ov, e = .returned ov ∧ w'.ownsRow w.heap.size 3 1 ov (expB b hol).1.length ((expB b hol).1.map (Value.int .i64)) ∧ BoxS N w' B (expB b hol).2 ∧ Kept (fun k => k = B) w w' ∧ FreshL w w' B := by
  have hsp := fun (w' : World) (hb : BoxAt w' B b) => spares_box hb hN
  have hsp0 := hsp w hb.at
  obtain ⟨lv, zs, hB, hzs, hz, hsv, hsz⟩ := hb
  have hz' := hz
  obtain ⟨ao, cap, rfl, hcap, ⟨hcm, hnone⟩, hfls, hcell⟩ := hz'
  have hBl : B < w.heap.size := (Array.getElem?_eq_some_iff.1 hB).1
  have d2 : w.cell? ⟨B, 2, none⟩ = some (.slice ao zs.length cap) := by rw [Lib.cell_of_heap hB]; rfl
  have hzl : zs.length ≤ 1000000 := by rw [← hzs, List.length_map] at hll; exact hll
  have cCon := fun v l W (h : SRow W v l) (h2 : l.length ≤ 1000000) => contains_any v l [92, 68, 101, 108, 101, 116, 101, 100] W h h2
  obtain ⟨i0, hi, hi0, hi1, hi2⟩ := info_parts let_info
  have HB := Lib.hid hB
  have HZ := Lib.hid hzs
  have HC := Lib.hid hcell
  have HF := Lib.hid hfls
  have HL := Lib.hid hfl
  have HV := Lib.hid hsz
  have HSP := Lib.hid hsp0
  have HCL := Lib.hid hcl
  clear hcell hfls hB hfl hsp hsz hcap hnone hsp0 hsv hz hcl
  rw [← hzs] at hll
  go_enter Tryz.func30, Tryz.ntmps30
  go_wp2_with fail
  go_loopg [5, 6, 14] zs.length (fun g s5 s6 s14 wr => ∃ (k : Nat) (ov lw : Value) (outs : List Int) (lefts : List (Let × Value)), k + g = zs.length ∧ s14 = .int .i64 (k : Int) ∧ ov = s5 ∧ lw = s6 ∧ outs.length ≤ k ∧ lefts.length ≤ k ∧ wr.ownsRow w.heap.size 3 1 ov outs.length (outs.map (Value.int .i64)) ∧ wr.ownsRow w.heap.size 51 4 lw lefts.length (cellsL lefts) ∧ Below w.heap.size w wr ∧
    Hid (outs = (((zs.take k).map (·.1)).filter (goesB hol)).map (·.uid) ∧ lefts = (zs.take k).filter (fun z => !goesB hol z.1)))
  case atStart => exact ⟨0, _, _, [], [], by omega, rfl, rfl, rfl, Nat.le_refl _, Nat.le_refl _, World.ownsRow_nil _ _ _ _, World.ownsRow_nil _ _ _ _, Below.refl _ _, rfl, rfl⟩
  case round =>
    obtain ⟨k, ov, lw, outs, lefts, hk, rfl, rfl, rfl, hol1, hll1, ho, hlo, hbr, HR⟩ := hrel
    by_cases hlt : k < zs.length
    · obtain ⟨g', rfl⟩ : ∃ g', gk = g' + 1 := ⟨gk - 1, by omega⟩
      obtain ⟨z, hzk⟩ : ∃ z, zs[k]? = some z := ⟨zs[k], List.getElem?_eq_getElem hlt⟩
      have hcs : ∀ i u, i < 4 → (cells1 z)[i]? = some u → ∃ b off, ao = some ⟨b, off, none⟩ ∧ wr.cell? ⟨b, off + k * 4 + i, none⟩ = some u := fun i u hi hu => by
        obtain ⟨b, off, e1, e2, e3⟩ := HC.out (k * 4 + i) u (by rw [cellsL_get _ _ _ hi, hzk]; exact hu)
        exact ⟨b, off, e1, by rw [Nat.add_assoc]; exact (hbr.cell e2).trans e3⟩
      obtain ⟨p, off, rfl, _⟩ := hcs 0 _ (by omega) rfl
      have hcq : ∀ i u, i < 4 → (cells1 z)[i]? = some u → wr.cell? ⟨p, off + k * 4 + i, none⟩ = some u := fun i u hi hu => by
        obtain ⟨b, off, e1, e2⟩ := hcs i u hi hu
        cases e1; exact e2
      have hzm := List.mem_of_getElem? hzk
      have hzf := HF.out z hzm
      have hzl2 : z.1.flags.length ≤ 1000000 := HL.out z.1 (by rw [← HZ.out]; exact List.mem_map_of_mem hzm)
      obtain ⟨xa, xc, hz2⟩ : ∃ xa xc, z.2 = .slice xa z.1.flags.length xc := by
        obtain ⟨ao, cap, h, _⟩ := hzf
        exact ⟨_, _, h⟩
      have c0 : wr.cell? ⟨p, off + k * 4, none⟩ = some (.int .i64 z.1.uid) := hcq 0 _ (by omega) rfl
      have c1 := hcq 1 z.2 (by omega) rfl
      have c2 := hcq 2 _ (by omega) rfl
      have c3 := hcq 3 _ (by omega) rfl
      have hzfr := hzf.below hbr
      rw [hz2] at c1 hzfr
      have hkz : (k : Int) < (zs.length : Int) := by omega
      have htk : zs.take (k + 1) = zs.take k ++ [z] := by
        rw [List.take_add_one, hzk]; rfl
      have hgo : Hid ((goesB hol z.1 = true → outs ++ [z.1.uid] = (((zs.take (k + 1)).map (·.1)).filter (goesB hol)).map (·.uid) ∧ lefts = (zs.take (k + 1)).filter (fun z => !goesB hol z.1)) ∧ (goesB hol z.1 = false → outs = (((zs.take (k + 1)).map (·.1)).filter (goesB hol)).map (·.uid) ∧ lefts ++ [z] = (zs.take (k + 1)).filter (fun z => !goesB hol z.1))) := by
        refine ⟨fun h => ?_, fun h => ?_⟩
        · rw [htk, HR.out.1, HR.out.2]
          simp [List.filter_append, h]
        · rw [htk, HR.out.1, HR.out.2]
          simp [List.filter_append, h]
      have cK := HCL.out z.1 (by rw [← HZ.out]; exact List.mem_map_of_mem hzm)
      obtain ⟨zx, zv⟩ := z
      obtain ⟨u, fl, dy, tx⟩ := zx
      simp only at hz2 c0 c1 c2 c3 hzfr hzl2 hgo
      subst hz2
      simp only at cK
      have hgb : goesB hol ⟨u, fl, dy, tx⟩ = (decide ([92, 68, 101, 108, 101, 116, 101, 100] ∈ fl) && hol u) := rfl
      rw [hgb] at hgo
      have HG := Lib.hid hgo.out
      obtain ⟨C, hC⟩ : ∃ C, decide (([92, 68, 101, 108, 101, 116, 101, 100] : List UInt8) ∈ fl) = C := ⟨_, rfl⟩
      rw [hC] at HG
      have cC2 : ∀ W, SRow W (.slice xa fl.length xc) fl → Calls Tryz.prog 55 #[.slice xa fl.length xc, .string ⟨#[92, 68, 101, 108, 101, 116, 101, 100]⟩] W fun e w' => e = .returned (.bool C) ∧ W = w' := fun W h => by
        have := cCon _ fl W h hzl2
        rw [hC] at this
        exact this
      obtain ⟨H, hH⟩ : ∃ H, hol u = H := ⟨_, rfl⟩
      rw [hH] at HG cK
      have yl : Below wr.heap.size wr (wr.alloc (.cells #[.int .i64 u, .slice xa fl.length xc, .int .i64 dy, .string ⟨tx.toArray⟩] 51)) := (Below.refl _ _).alloc (Nat.le_refl _) _
      have xl := World.heap_alloc_new wr (.cells #[.int .i64 u, .slice xa fl.length xc, .int .i64 dy, .string ⟨tx.toArray⟩] 51)
      obtain ⟨l0, l1, l2, l3⟩ := four_cells xl
      have HFR := Lib.hid (hzfr.below yl)
      have yw := hbr.trans (yl.mono hbr.size)
      have hlt3 := ho.lt
      have hlt4 := hlo.lt
      have hbs := hbr.size
      have HO := ho.alloc (.cells #[.int .i64 u, .slice xa fl.length xc, .int .i64 dy, .string ⟨tx.toArray⟩] 51)
      have HLO := hlo.alloc (.cells #[.int .i64 u, .slice xa fl.length xc, .int .i64 dy, .string ⟨tx.toArray⟩] 51)
      have XL := Lib.hid xl
      clear hcs hcq hzk hzm hzf hgo hgb hC hH htk hzfr xl ho hlo HR cCon
      obtain ⟨wl, hwl⟩ : ∃ wl, wr.alloc (.cells #[.int .i64 u, .slice xa fl.length xc, .int .i64 dy, .string ⟨tx.toArray⟩] 51) = wl := ⟨_, rfl⟩
      have hsl : wl.heap.size = wr.heap.size + 1 := by rw [← hwl, alloc_size]
      have HSL := Lib.hid hsl
      clear hsl
      cases C with
      | false =>
        have HQ := Lib.hid (HG.out.2 (by rfl))
        clear HG cK
        rw [hwl] at yl l0 l1 l2 l3 HFR yw HO HLO XL
        have HNEW : Hid (∀ (j : Nat) (v : Value), (cells1 ((⟨u, fl, dy, tx⟩, .slice xa fl.length xc) : Let × Value))[j]? = some v → (wl.alloc (.cells #[.int .i64 u, .slice xa fl.length xc, .int .i64 dy, .string ⟨tx.toArray⟩] 51)).cell? ((⟨wl.heap.size, 0, none⟩ : Addr).add j) = some v) := fun j v hj => by
          rw [add_pl, Nat.zero_add, Lib.cell_of_heap (World.heap_alloc_new wl _)]
          simpa [cells1] using hj
        have H1 : Hid (∀ v ∈ cells1 ((⟨u, fl, dy, tx⟩, .slice xa fl.length xc) : Let × Value), v.oneCell' = true) := fun v hu => by
          simp only [cells1, List.mem_cons, List.not_mem_nil, or_false] at hu
          rcases hu with rfl | rfl | rfl | rfl <;> rfl
        go_upto_region 6 with fail
        clear hwl
        go_wp2_with (first
          | (go_at_call 55; with_reducible refine (cC2 _ HFR.out).mono ?_; rintro e w2 ⟨rfl, hw⟩; subst hw)
          | (at_builtin; go_must (refine wpList_append_own _ rfl _ _ 22 rfl w.heap.size 51 i0 _ 4 56 Tryz.underlying22 hi hi0 hi1 hi2 rfl (by decide) lw lefts.length (cellsL lefts) rfl (HLO.alloc _) ⟨wl.heap.size, 0, none⟩ 1 1 (cells1 (⟨u, fl, dy, tx⟩, .slice xa fl.length xc)) rfl rfl HNEW.out H1.out ?k1 ?k2 ?k3 ?_)))
        case k1 => unfold maxLen; omega
        case k2 => omega
        case k3 => rw [alloc_size, HSL.out]; omega
        intro v' w2 o2 g2 _
        have y2 : Below w.heap.size w w2 := (yw.alloc yw.size _).grown g2 (by rw [alloc_size, HSL.out]; omega) (fun j h => (hlt4 j h).1)
        have o3 : w2.ownsRow w.heap.size 51 4 v' (lefts ++ [((⟨u, fl, dy, tx⟩ : Let), Value.slice xa fl.length xc)]).length (cellsL (lefts ++ [((⟨u, fl, dy, tx⟩ : Let), Value.slice xa fl.length xc)])) := by
          rw [List.length_append, cellsL_app]; simpa [cellsL] using o2
        have o4 : w2.ownsRow w.heap.size 3 1 ov outs.length (outs.map (Value.int .i64)) := HO.alloc (.cells #[.int .i64 u, .slice xa fl.length xc, .int .i64 dy, .string ⟨tx.toArray⟩] 51) |> fun h => owns_same h (fun j o hj ho => g2.block j (Array.getElem?_eq_some_iff.1 hj).1 (fun e => by
          obtain ⟨c, fz, rfl⟩ := ho
          rcases (HLO.alloc (.cells #[.int .i64 u, .slice xa fl.length xc, .int .i64 dy, .string ⟨tx.toArray⟩] 51)).2 with ⟨rfl, _⟩ | ⟨g, cap', cur, rfl, _, hh, _⟩
          · simp [Value.ownBlock] at e
          · simp [Value.ownBlock] at e
            subst e
            rw [hj] at hh
            cases hh) |>.trans hj)
        clear o2 HNEW H1 HO HLO
        go_wp2_with fail
        go_roundg g'
        case measure => omega
        case rel => exact ⟨k + 1, ov, v', outs, lefts ++ [((⟨u, fl, dy, tx⟩ : Let), Value.slice xa fl.length xc)], by omega, by go_num, rfl, rfl, by omega, by rw [List.length_append]; simp; omega, o4, o3, y2, HQ.out⟩
      | true =>
        cases H with
        | false =>
          have HQ := Lib.hid (HG.out.2 (by rfl))
          clear HG
          rw [hwl] at yl l0 l1 l2 l3 HFR yw HO HLO XL
          have cK2 := cK wl yw
          have HNEW : Hid (∀ (j : Nat) (v : Value), (cells1 ((⟨u, fl, dy, tx⟩, .slice xa fl.length xc) : Let × Value))[j]? = some v → (wl.alloc (.cells #[.int .i64 u, .slice xa fl.length xc, .int .i64 dy, .string ⟨tx.toArray⟩] 51)).cell? ((⟨wl.heap.size, 0, none⟩ : Addr).add j) = some v) := fun j v hj => by
            rw [add_pl, Nat.zero_add, Lib.cell_of_heap (World.heap_alloc_new wl _)]
            simpa [cells1] using hj
          have H1 : Hid (∀ v ∈ cells1 ((⟨u, fl, dy, tx⟩, .slice xa fl.length xc) : Let × Value), v.oneCell' = true) := fun v hu => by
            simp only [cells1, List.mem_cons, List.not_mem_nil, or_false] at hu
            rcases hu with rfl | rfl | rfl | rfl <;> rfl
          clear cK
          go_upto_region 6 with fail
          clear hwl
          go_wp2_with (first
            | (go_at_call 55; with_reducible refine (cC2 _ HFR.out).mono ?_; rintro e w2 ⟨rfl, hw⟩; subst hw)
            | (go_at_call 28; with_reducible refine cK2.mono ?_; rintro e w2 ⟨rfl, hw⟩; subst hw)
            | (at_builtin; go_must (refine wpList_append_own _ rfl _ _ 22 rfl w.heap.size 51 i0 _ 4 56 Tryz.underlying22 hi hi0 hi1 hi2 rfl (by decide) lw lefts.length (cellsL lefts) rfl (HLO.alloc _) ⟨wl.heap.size, 0, none⟩ 1 1 (cells1 (⟨u, fl, dy, tx⟩, .slice xa fl.length xc)) rfl rfl HNEW.out H1.out ?k1 ?k2 ?k3 ?_)))
          case k1 => unfold maxLen; omega
          case k2 => omega
          case k3 => rw [alloc_size, HSL.out]; omega
          intro v' w2 o2 g2 _
          have y2 : Below w.heap.size w w2 := (yw.alloc yw.size _).grown g2 (by rw [alloc_size, HSL.out]; omega) (fun j h => (hlt4 j h).1)
          have o3 : w2.ownsRow w.heap.size 51 4 v' (lefts ++ [((⟨u, fl, dy, tx⟩ : Let), Value.slice xa fl.length xc)]).length (cellsL (lefts ++ [((⟨u, fl, dy, tx⟩ : Let), Value.slice xa fl.length xc)])) := by
            rw [List.length_append, cellsL_app]; simpa [cellsL] using o2
          have o4 : w2.ownsRow w.heap.size 3 1 ov outs.length (outs.map (Value.int .i64)) := HO.alloc (.cells #[.int .i64 u, .slice xa fl.length xc, .int .i64 dy, .string ⟨tx.toArray⟩] 51) |> fun h => owns_same h (fun j o hj ho => g2.block j (Array.getElem?_eq_some_iff.1 hj).1 (fun e => by
            obtain ⟨c, fz, rfl⟩ := ho
            rcases (HLO.alloc (.cells #[.int .i64 u, .slice xa fl.length xc, .int .i64 dy, .string ⟨tx.toArray⟩] 51)).2 with ⟨rfl, _⟩ | ⟨g, cap', cur, rfl, _, hh, _⟩
            · simp [Value.ownBlock] at e
            · simp [Value.ownBlock] at e
              subst e
              rw [hj] at hh
              cases hh) |>.trans hj)
          clear o2 HNEW H1 HO HLO
          go_wp2_with fail
          go_roundg g'
          case measure => omega
          case rel => exact ⟨k + 1, ov, v', outs, lefts ++ [((⟨u, fl, dy, tx⟩ : Let), Value.slice xa fl.length xc)], by omega, by go_num, rfl, rfl, by omega, by rw [List.length_append]; simp; omega, o4, o3, y2, HQ.out⟩
        | true =>
          have HQ := Lib.hid (HG.out.1 (by rfl))
          clear HG
          rw [hwl] at yl l0 l1 l2 l3 HFR yw HO HLO XL
          have cK2 := cK wl yw
          clear cK
          go_upto_region 6 with fail
          clear hwl
          go_wp2_with (first
            | (go_at_call 55; with_reducible refine (cC2 _ HFR.out).mono ?_; rintro e w2 ⟨rfl, hw⟩; subst hw)
            | (go_at_call 28; with_reducible refine cK2.mono ?_; rintro e w2 ⟨rfl, hw⟩; subst hw)
            | (at_builtin; go_must (refine wpList_app1 rfl _ _ 46 rfl 3 Tryz.underlying46 int_info rfl w.heap.size ov _ _ _ rfl HO _ rfl rfl ?k1 (by decide) ?k2 ?_)))
          case k1 => omega
          case k2 => rw [HSL.out]; omega
          intro v' w2 o2 g2 _
          have y2 : Below w.heap.size w w2 := below_app yw (by rw [HSL.out]; omega) HO g2
          have o3 : w2.ownsRow w.heap.size 3 1 v' (outs ++ [u]).length ((outs ++ [u]).map (Value.int .i64)) := by
            rw [List.length_append, List.map_append]; exact o2
          have o4 : w2.ownsRow w.heap.size 51 4 lw lefts.length (cellsL lefts) := owns_app HLO HO g2 (by decide)
          clear o2 HO HLO
          go_wp2_with fail
          go_roundg g'
          case measure => omega
          case rel => exact ⟨k + 1, v', lw, outs ++ [u], lefts, by omega, by go_num, rfl, rfl, by rw [List.length_append]; simp; omega, by omega, o3, o4, y2, HQ.out⟩
    · obtain rfl : k = zs.length := by omega
      have hR := HR.out
      rw [List.take_length] at hR
      have HR2 := Lib.hid hR
      have hBr := (hbr.block B hBl).trans HB.out
      have fB : wr.frozen? ⟨B, 2, none⟩ = false := Lib.frozen_of_heap hBr 2
      have dB := (three_cells hBr).2.2
      have HBR := Lib.hid hBr
      have hlt3 := ho.lt
      have hlt4 := hlo.lt
      obtain ⟨la, lc, rfl⟩ := owns_val hlo
      clear hR HR hBr
      go_wp2_with fail
      go_ret
      have e1 : (expB b hol).1 = outs := by
        rw [HR2.out.1, HZ.out]; rfl
      have hlen : lefts.map (·.1) = (expB b hol).2.ls := by
        rw [HR2.out.2]
        show _ = b.ls.filter (fun x => !goesB hol x)
        rw [← HZ.out, List.filter_map]
        rfl
      have hgw : wr.grownBy (wr.setCell ⟨B, 2, none⟩ (.slice la lefts.length lc)) (some B) := ⟨rfl, rfl, rfl, by rw [set_size]; exact Nat.le_refl _, fun j hj hs => Below.heap_setCell wr _ _ j (fun e => hs (by rw [e]))⟩
      have hnB : ∀ v : Value, (∀ j, v.ownBlock = some j → w.heap.size ≤ j ∧ j < wr.heap.size) → v.ownBlock = none ∨ v.ownBlock ≠ some B := fun v h => Or.inr (fun e => by have := (h B e).1; omega)
      have hlo2 := hlo.kept hgw (hnB _ hlt4)
      have hKw : Kept (fun k => k = B) w (wr.setCell ⟨B, 2, none⟩ (.slice la lefts.length lc)) := Kept.setB (kept_below hbr) _
      have hmem : ∀ z ∈ lefts, z ∈ zs := fun z hz => by rw [HR2.out.2] at hz; exact (List.mem_filter.1 hz).1
      rw [e1]
      refine ⟨_, rfl, ho.kept hgw (hnB _ hlt3), ⟨_, lefts, set3_2 HBR.out, hlen, zrow_owns hlo2 (fun z hz => ?_), safe_owns hlo2, fun z hz => ?_⟩, hKw, freshL_new (set3_2 HBR.out) (fun j hj => (hlt4 j hj).1)⟩
      · exact (HF.out z (hmem z hz)).kept (HV.out z (hmem z hz)) hKw HSP.out
      · exact (HV.out z (hmem z hz)).kept hKw HSP.out
end Go.Proofs.YteclajckkjocnaaGreatDoor
