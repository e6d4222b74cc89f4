/- How somebody sees a box: the walk over Look. Condition: none. -/
import Derived.Deep.QuietTactic
import Derived.BigQuiet
import Derived.Deep.DrawnRows
import Derived.Deep.DeepCutAuto
import Derived.Deep.CutBlock
import Derived.Laws.AppendOwnNone
import Derived.Test.YteclajckkjocnaaGreatDoorPkViewN
namespace Go.Proofs.YteclajckkjocnaaGreatDoor
open Go.RowKit Go.Shelf Go.Sort
set_option linter.unusedSimpArgs false
set_option linter.unusedSimpArgs false
/-- what Look leaves -/
def LookQ (N : Nat) (w : World) (V : Nat) (uv0 fv0 : Value) (ls : List Let) (us : Us) (gone : Bool) (e : Ending) (w' : World) : Prop :=
  ∃ ov vs uv fv, e = .returned ov ∧ w'.ownsRow w.heap.size 103 3 ov vs.length (cellsN vs) ∧ ReadsN N w' vs (lookF ls us gone).1 ∧ ViewS N w' V uv fv (lookF ls us gone).2 ∧ Kept (fun j => j = V ∨ uv0.ownBlock = some j ∨ fv0.ownBlock = some j) w w' ∧
    (uv.ownBlock = uv0.ownBlock ∨ ∀ j, uv.ownBlock = some j → w.heap.size ≤ j) ∧ (fv.ownBlock = fv0.ownBlock ∨ ∀ j, fv.ownBlock = some j → w.heap.size ≤ j)
attribute [local go_sem ↓] Go.wp_at_zero Go.wp_at_succ
set_option maxRecDepth 100000 in
set_option maxHeartbeats 40000000 in
theorem look_any (N V : Nat) (b : BoxP) (lv uv0 fv0 : Value) (zs : List (Let × Value)) (us : Us) (gone : Bool) (w : World) (hv : ViewS N w V uv0 fv0 us) (hN : N ≤ V) (hNw : N ≤ w.heap.size) (hzs : zs.map (·.1) = b.ls) (hx : XRow N w lv zs)
    (hri : Rising b.ls) (hfl : ∀ x ∈ b.ls, x.flags.length ≤ 1000000) (hfu : ∀ u ∈ us, u.2.length ≤ 1000000) (hul : us.length ≤ 100000) (hur : ∀ u ∈ us, -9223372036854775808 ≤ u.1 ∧ u.1 ≤ 9223372036854775807) (hll : b.ls.length ≤ 100000) :
    Calls Tryz.prog 33 #[.pointer (some ⟨V, 0, none⟩), .agg #[.int .i64 b.valid, .int .i64 b.next, lv], .bool gone] w (LookQ N w V uv0 fv0 b.ls us gone) := by
  obtain ⟨gs0, hV, hu0, hf0, hr0⟩ := hv
  have hSP := spares_view hV hN hu0 hf0
  have hgl0 : gs0.length = us.length := by have := hf0.1; simpa using this
  obtain ⟨ao, cap, hlv, _⟩ := hx.1
  subst hlv
  have x0 := World.heap_alloc_new w (.cells #[.int .i64 b.valid, .int .i64 b.next, .slice ao zs.length cap] 28)
  have y0 : Below w.heap.size w (w.alloc (.cells #[.int .i64 b.valid, .int .i64 b.next, .slice ao zs.length cap] 28)) := (Below.refl _ _).alloc (Nat.le_refl _) _
  have hL0 : LookS N w V w.heap.size b.valid b.next (.slice ao zs.length cap) uv0 fv0 (w.alloc (.cells #[.int .i64 b.valid, .int .i64 b.next, .slice ao zs.length cap] 28)) uv0 fv0 ((curL b.ls us us.length).map (·.1)) ((curL b.ls us us.length).map (·.2)) gs0 := by
    rw [curL_all]
    exact ⟨below_same y0 hV, x0, by rw [List.length_map]; exact owns_below hu0 y0, by rw [hgl0]; exact owns_below hf0 y0, by rw [hgl0, List.length_map], hr0.below y0, kept_below y0, Or.inl rfl, Or.inl rfl⟩
  have hzl : zs.length ≤ 100000 := by rw [← hzs, List.length_map] at hll; exact hll
  have HL0 := Lib.hid hL0
  have HSPS := Lib.hid hSP
  have HX := Lib.hid hx
  have HZ := Lib.hid hzs
  have HRI := Lib.hid hri
  have HFL := Lib.hid hfl
  have HFU := Lib.hid hfu
  have HUR := Lib.hid hur
  obtain ⟨Bx, hBx⟩ : ∃ Bx, w.heap.size = Bx := ⟨_, rfl⟩
  have hVw : V < w.heap.size := (Array.getElem?_eq_some_iff.1 hV).1
  -- Find, wherever the state holds
  have hfind : ∀ (n : Int) (wr : World) (uv fv : Value) (ui : List Int) (fls : List (List (List UInt8))) (gs : List (Option Addr × Nat × Nat)), -9223372036854775808 ≤ n → n ≤ 9223372036854775807 → LookS N w V w.heap.size b.valid b.next (.slice ao zs.length cap) uv0 fv0 wr uv fv ui fls gs →
      Calls Tryz.prog 12 #[.pointer (some ⟨w.heap.size, 0, none⟩), .int .i64 n] wr fun e w' => ∃ i : Nat, e = .returned (.tuple #[.int .i64 (i : Int), .bool (findB b.ls n).isSome]) ∧ Hid (∀ k, findB b.ls n = some k → i = k) ∧ Below wr.heap.size wr w' := fun n wr uv fv ui fls gs h1 h2 hL => by
    have hxr := hx.kept hL.hk hSP
    exact find_any_box w.heap.size b n wr ⟨_, hL.hB, hzs ▸ lrow_of hxr.1⟩ hri (by omega) h1 h2
  have HFIND := Lib.hid hfind
  obtain ⟨i3, hi3, hz30, hz31, hz32⟩ := info_parts news_info
  have k2 := (three_cells x0).2.2
  have dV0 := (two_cells HL0.out.hV).1
  clear hV hu0 hf0 hr0 hSP hx x0 y0 hL0 hzs hri hfl hfu hur hfind
  go_enter Tryz.func33, Tryz.ntmps33
  obtain ⟨ua0, uc0, huv0⟩ := owns_val HL0.out.hu
  rw [List.length_map, curL_all] at huv0
  have huz : wrap64 ((us.length : Int) - 1) = (us.length : Int) - 1 := IntWalk.wrap64_in _ (by omega)
  rw [huv0] at dV0
  clear huv0
  go_upto_block 0 with fail
  rw [hBx] at HL0
  have HBX := Lib.hid hBx
  clear k2 dV0 huz
  obtain ⟨us1, hus1⟩ : ∃ us1, (if gone then us.filter (foundB b.ls) else us) = us1 := ⟨_, rfl⟩
  obtain ⟨G1, hG1⟩ : ∃ G1, (if gone then goneL b.ls us us.length else []) = G1 := ⟨_, rfl⟩
  have HU1 := Lib.hid hus1
  have HG1 := Lib.hid hG1
  clear hus1 hG1
  rw [hBx] at HFIND
  clear hBx
  go_cut [7] (fun s7 wr => ∃ (uv fv ov : Value) (gs : List (Option Addr × Nat × Nat)) (vs : NV), ov = s7 ∧ LookN N w V Bx b.valid b.next (.slice ao zs.length cap) uv0 fv0 wr uv fv (us1.map (·.1)) (us1.map (·.2)) gs ov vs G1 (.slice none 0 0) [] [] ∧ vs.length ≤ us.length)
  case first =>
    go_wp2_with fail
    go_loopg [7, 8] us.length (fun g s7 s8 wr => ∃ (i : Int) (uv fv ov : Value) (gs : List (Option Addr × Nat × Nat)) (vs : NV), s8 = .int .i64 i ∧ i = (g : Int) - 1 ∧ g ≤ us.length ∧ ov = s7 ∧ LookN N w V Bx b.valid b.next (.slice ao zs.length cap) uv0 fv0 wr uv fv ((curL b.ls us g).map (·.1)) ((curL b.ls us g).map (·.2)) gs ov vs (goneL b.ls us (us.length - g)) (.slice none 0 0) [] [] ∧ vs.length + g ≤ us.length ∧ Hid (gone = false → g = us.length))
    case atStart => exact ⟨_, uv0, fv0, _, gs0, [], rfl, rfl, Nat.le_refl _, rfl, ⟨HL0.out, World.ownsRow_nil _ _ _ _, by rw [Nat.sub_self]; exact ReadsN.nil _ _, World.ownsRow_nil _ _ _ _, ReadsN.nil _ _, fun j h => by cases h⟩, by simp, fun _ => rfl⟩
    case round =>
      obtain ⟨i, uv, fv, ov, gs, vs, rfl, hi, hgk, rfl, hL, hvl, HG⟩ := hrel
      by_cases hpos : 0 < gk
      · obtain ⟨m, rfl⟩ : ∃ m, gk = m + 1 := ⟨gk - 1, by omega⟩
        obtain rfl : i = (m : Int) := by omega
        clear hi
        cases gone with
        | false =>
          have hgu := HG.out rfl
          have HGU := Lib.hid hgu
          have HL := Lib.hid hL
          clear hL hgu
          go_wp2_with fail
          go_meet
          have e1 : us1 = us := by rw [← HU1.out]; rfl
          have e2 : G1 = [] := by rw [← HG1.out]; rfl
          refine ⟨uv, fv, ov, gs, vs, rfl, ?_, by omega⟩
          have := HL.out
          rw [HGU.out, curL_all, Nat.sub_self] at this
          rw [e1, e2]; exact this
        | true =>
          obtain ⟨u, hum⟩ : ∃ u, us[m]? = some u := ⟨us[m], List.getElem?_eq_getElem (by omega)⟩
          have hcl := curL_len (ls := b.ls) hgk
          have hcl2 := curL_le b.ls us (m + 1)
          have hca := curL_at (ls := b.ls) hum
          have hur := HUR.out u (List.mem_of_getElem? hum)
          have hFy := fun (h : foundB b.ls u = true) => curL_yes hum h
          have hFn := fun (h : foundB b.ls u = false) => curL_no hum h
          have hGy := fun (h : foundB b.ls u = true) => goneL_yes hum h
          have hGn := fun (h : foundB b.ls u = false) => goneL_no hum h
          obtain ⟨C, hC⟩ : ∃ C, curL b.ls us (m + 1) = C := ⟨_, rfl⟩
          rw [hC] at hcl hcl2 hca hFy hFn hL
          have HCA := Lib.hid hca
          have hpu : ∃ p q, uv = .slice (some ⟨p, 0, none⟩) C.length q := by
            obtain ⟨p, q, e⟩ := own_some hL.s.hu (by rw [List.length_map]; omega)
            rw [List.length_map] at e
            exact ⟨p, q, e⟩
          obtain ⟨pu, qu, rfl⟩ := hpu
          have dV := (two_cells hL.s.hV).1
          have hcu : wr.cell? ⟨pu, m, none⟩ = some (.int .i64 u.1) := by
            have := hL.s.hu
            rw [List.length_map] at this
            rw [this.cellAt m (by omega), List.getElem?_map, List.getElem?_map, hca]; rfl
          have cF := HFIND.out u.1 wr _ _ _ _ _ hur.1 hur.2 hL.s
          have hmz : (m : Int) < (C.length : Int) := by omega
          have hgl : gs.length = C.length := by rw [hL.s.hl, List.length_map]
          have HGL := Lib.hid hgl
          have HL := Lib.hid hL
          have HC := Lib.hid hC
          clear hL hca hC hum hgl
          cases hf : foundB b.ls u with
          | true =>
            have e1 := hFy hf
            have e2 := hGy hf
            have hf' : (findB b.ls u.1).isSome = true := hf
            rw [hf'] at cF
            have cF2 : Calls Tryz.prog 12 #[.pointer (some ⟨Bx, 0, none⟩), .int .i64 u.1] wr fun e w' => ∃ i : Nat, e = .returned (.tuple #[.int .i64 (i : Int), .bool true]) ∧ Below wr.heap.size wr w' := cF.mono (by rintro e w' ⟨i, h, _, h2⟩; exact ⟨i, h, h2⟩)
            have E1 := Lib.hid e1; have E2 := Lib.hid e2
            clear cF hFy hFn hGy hGn e1 e2 hf hf'
            go_wp2_with (go_at_call 12; go_loud ((with_reducible refine cF2.mono ?_); rintro e w1 ⟨j, rfl, h⟩))
            go_roundg m
            case measure => omega
            case rel =>
              refine ⟨_, .slice (some ⟨pu, 0, none⟩) C.length qu, fv, ov, gs, vs, rfl, rfl, by omega, rfl, ?_, by omega, fun h => by cases h⟩
              rw [E1.out, E2.out]; exact HL.out.below h
          | false =>
            have e1 := hFn hf
            have e2 := hGn hf
            have hf' : (findB b.ls u.1).isSome = false := hf
            rw [hf'] at cF
            have cF2 : Calls Tryz.prog 12 #[.pointer (some ⟨Bx, 0, none⟩), .int .i64 u.1] wr fun e w' => ∃ i : Nat, e = .returned (.tuple #[.int .i64 (i : Int), .bool false]) ∧ Below wr.heap.size wr w' := cF.mono (by rintro e w' ⟨i, h, _, h2⟩; exact ⟨i, h, h2⟩)
            have E1 := Lib.hid e1; have E2 := Lib.hid e2
            have hws : w.heap.size ≤ wr.heap.size := HL.out.s.hk.size
            have cCI := fun (W : World) (h : W.ownsRow N 3 1 (.slice (some ⟨pu, 0, none⟩) C.length qu) C.length ((C.map (·.1)).map (Value.int .i64))) => cloneRowI _ C.length N (C.map (·.1)) W h (by omega)
            clear cF hFy hFn hGy hGn e1 e2 hf hf'
            go_wp2_with (first
              | (go_at_call 12; go_loud ((with_reducible refine cF2.mono ?_); rintro e w1 ⟨j, rfl, h⟩; have L1 := HL.out.below h; have h1s := h.size; have HV1 := Lib.hid L1.s.hV; have HA1 := Lib.hid (alloc_size w1 (.cells #[.int .i64 1, .int .i64 ((m : Int) + 1), .slice none 0 0] 103))))
              | (at_builtin; go_must (refine wpList_append_lies _ rfl _ _ 79 rfl w.heap.size 103 i3 _ 3 40 Tryz.underlying79 hi3 hz30 hz31 hz32 rfl (by omega) ov vs.length (cellsN vs) rfl (L1.o.alloc _) ⟨w1.heap.size, 0, none⟩ 1 1 [.int .i64 1, .int .i64 ((m : Int) + 1), .slice none 0 0] rfl rfl (World.news_of_block (World.heap_alloc_new w1 (.cells #[.int .i64 1, .int .i64 ((m : Int) + 1), .slice none 0 0] 103))) (by intro u hu; simp only [List.mem_cons, List.not_mem_nil, or_false] at hu; rcases hu with rfl | rfl | rfl <;> rfl) (by omega) (by unfold maxLen; omega) (by omega) (by rw [HA1.out]; omega) (w1.heap.size + 1) HA1.out ?_)))
            intro p q w2 o2 g2 hp2 _
            have L2 := L1.tellO hNw (x := (1, (m : Int) + 1, (none, 0, 0))) (f := []) (SRow.nil _) (safe_nil _ _) o2 g2 hp2
            have g2s := g2.size
            rw [HA1.out] at g2s
            have dV2 := (two_cells L2.s.hV).1
            have HL2 := Lib.hid L2
            clear L2 L1 o2 g2 hp2 HV1 HA1 dV hcu
            go_wp2_with (first
              | (go_at_call 40; go_loud ((with_reducible refine (cCI _ (owns_n HL2.out.s.hu (List.length_map ..))).mono ?_); rintro e w3 ⟨v1, rfl, ho3, h3⟩; obtain ⟨p1, q1, rfl⟩ := own_some ho3 (by omega); have cD := delRowI p1 q1 w2.heap.size C.length m (C.map (·.1)) w3 ho3 (by omega); have hp1 := ho3.lt p1 rfl))
              | (go_at_call 58; go_loud ((with_reducible refine cD.mono ?_); rintro e w4 ⟨rfl, ho4, g4⟩; have y4 := (h3.grown g4 h3.size (fun j e => by cases e; exact hp1.1)); have L4 := HL2.out.below y4; have d0 := (two_cells L4.s.hV).1; have d1 := (two_cells L4.s.hV).2; have f0 : w4.frozen? ⟨V, 0, none⟩ = false := Lib.frozen_of_heap L4.s.hV 0; have L5 := L4.setU hN hNw (uv' := .slice (some ⟨p1, 0, none⟩) (C.length - 1) q1) (ui' := (C.map (·.1)).eraseIdx m) (owns_n (owns_less ho4 (by omega)) (by rw [List.length_eraseIdx, List.length_map, if_pos (by omega)])); have HL5 := Lib.hid L5; clear L4 L5 ho4 ho3 cD))
              | (go_at_call 60; go_loud ((with_reducible refine (cloneRowS fv gs.length N gs _ HL5.out.s.hf (by rw [HGL.out]; omega)).mono ?_); rintro e w6 ⟨v2, rfl, ho6, h6⟩; obtain ⟨p2, q2, rfl⟩ := own_some ho6 (by rw [HGL.out]; omega); have cD2 := delRowS p2 q2 _ gs.length m gs w6 ho6 (by rw [HGL.out]; omega); have hp2 := ho6.lt p2 rfl))
              | (go_at_call 59; go_loud ((with_reducible refine cD2.mono ?_); rintro e w7 ⟨rfl, ho7, g7⟩; have y7 := (h6.grown g7 h6.size (fun j e => by cases e; exact hp2.1)); have L7 := HL5.out.below y7; have d0 := (two_cells L7.s.hV).1; have d1 := (two_cells L7.s.hV).2; have f1 : w7.frozen? ⟨V, 1, none⟩ = false := Lib.frozen_of_heap L7.s.hV 1; have hs5 := set_size w4 ⟨V, 0, none⟩ (.slice (some ⟨p1, 0, none⟩) (C.length - 1) q1); have y4s := y4.size; have L8 := L7.setF hN hNw (fv' := .slice (some ⟨p2, 0, none⟩) (gs.length - 1) q2) (gs' := gs.eraseIdx m) (fls' := (C.map (·.2)).eraseIdx m) (owns_n (owns_less ho7 (by rw [hs5]; omega)) (by rw [List.length_eraseIdx, HGL.out, if_pos (by omega)])) (by rw [List.length_eraseIdx, List.length_eraseIdx, List.length_map, HGL.out]) (L7.s.hr.erase m); have HL8 := Lib.hid L8; clear L7 L8 ho7 ho6 cD2 hs5)))
            go_roundg m
            case measure => omega
            case rel =>
              refine ⟨_, .slice (some ⟨p1, 0, none⟩) (C.length - 1) q1, .slice (some ⟨p2, 0, none⟩) (gs.length - 1) q2, _, gs.eraseIdx m, vs ++ [((1 : Int), (m : Int) + 1, ((none, 0, 0) : Option Addr × Nat × Nat))], rfl, rfl, by omega, rfl, ?_, ?_, fun h => by cases h⟩
              · rw [E1.out, E2.out, map_erase, map_erase]; exact HL8.out
              · rw [List.length_append]; simp; omega
      · obtain rfl : gk = 0 := by omega
        obtain rfl : i = -1 := by omega
        clear hi
        have HL := Lib.hid hL
        clear hL
        go_wp2_with fail
        go_meet
        refine ⟨uv, fv, ov, gs, vs, rfl, ?_, by omega⟩
        have hL := HL.out
        cases gone with
        | false =>
          obtain rfl : us = [] := List.eq_nil_of_length_eq_zero (HG.out rfl).symm
          have e1 : us1 = [] := by rw [← HU1.out]; rfl
          have e2 : G1 = [] := by rw [← HG1.out]; rfl
          rw [e1, e2]; exact hL
        | true =>
          have e1 : us1 = us.filter (foundB b.ls) := by rw [← HU1.out]; rfl
          have e2 : G1 = goneL b.ls us us.length := by rw [← HG1.out]; rfl
          rw [curL_none, Nat.sub_zero] at hL
          rw [e1, e2]; exact hL
  case rest =>
    obtain ⟨uv, fv, ov, gs, vs, rfl, hL, hvl⟩ := hcut
    have hu1l : us1.length ≤ us.length := by
      rw [← HU1.out]
      split
      · exact List.length_filter_le _ _
      · exact Nat.le_refl _
    have HU1s : Hid (∀ u ∈ us1, u ∈ us) := fun u hu => by
      rw [← HU1.out] at hu
      split at hu
      · exact (List.mem_filter.1 hu).1
      · exact hu
    obtain ⟨ua, uc, huv⟩ := owns_val hL.s.hu
    rw [List.length_map] at huv
    subst huv
    obtain ⟨fa, fc, hfv⟩ := owns_val hL.s.hf
    have hgl1 : gs.length = us1.length := by rw [hL.s.hl, List.length_map]
    rw [hgl1] at hfv
    subst hfv
    have dV := (two_cells hL.s.hV).1
    have HL1 := Lib.hid hL
    clear hL hgl1 HL0
    go_upto_block 2 with fail
    clear dV
    go_cut [11] (fun s11 wr => ∃ (cv : Value) (gs : List (Option Addr × Nat × Nat)) (cs : NV), cv = s11 ∧ LookN N w V Bx b.valid b.next (.slice ao zs.length cap) uv0 fv0 wr (.slice ua us1.length uc) (.slice fa us1.length fc) (us1.map (·.1)) ((us1.map (nowF b.ls)).map (·.2)) gs ov vs G1 cv cs (chF b.ls 0 us1) ∧ cs.length ≤ us1.length ∧ Hid (cs = [] → cv = .slice none 0 0))
    case first =>
      go_wp2_with fail
      go_loopg [11, 79] us1.length (fun g s11 s79 wr => ∃ (k : Nat) (cv : Value) (gs : List (Option Addr × Nat × Nat)) (cs : NV), k + g = us1.length ∧ s79 = .int .i64 (k : Int) ∧ cv = s11 ∧ LookN N w V Bx b.valid b.next (.slice ao zs.length cap) uv0 fv0 wr (.slice ua us1.length uc) (.slice fa us1.length fc) (us1.map (·.1)) ((stF b.ls us1 k).map (·.2)) gs ov vs G1 cv cs (chF b.ls 0 (us1.take k)) ∧ cs.length ≤ k ∧ Hid (cs = [] → cv = .slice none 0 0))
      case atStart => exact ⟨0, _, gs, [], by omega, rfl, rfl, by rw [stF_zero]; exact HL1.out, Nat.zero_le _, fun _ => rfl⟩
      case round =>
        obtain ⟨k, cv, gs, cs, hk, rfl, rfl, hL, hcl, hnilc⟩ := hrel
        clear HL1
        have hgl : gs.length = us1.length := by rw [hL.s.hl, List.length_map, stF_len]
        by_cases hlt : k < us1.length
        · obtain ⟨g', rfl⟩ : ∃ g', gk = g' + 1 := ⟨gk - 1, by omega⟩
          obtain ⟨u, hum⟩ : ∃ u, us1[k]? = some u := ⟨us1[k], List.getElem?_eq_getElem hlt⟩
          have humem := HU1s.out u (List.mem_of_getElem? hum)
          have hur := HUR.out u humem
          have hfu := HFU.out u humem
          have hst := fun (h : (nowF b.ls u).2 = u.2) => stF_same hum h
          have hst2 := stF_set (ls := b.ls) hum
          have hat := stF_at (ls := b.ls) hum
          have hch := chF_take (ls := b.ls) hum
          obtain ⟨pu, rfl⟩ : ∃ p, ua = some ⟨p, 0, none⟩ := by
            obtain ⟨p, q, e⟩ := own_some hL.s.hu (by rw [List.length_map]; omega)
            injection e with e1
            exact ⟨p, e1⟩
          obtain ⟨pf, rfl⟩ : ∃ p, fa = some ⟨p, 0, none⟩ := by
            obtain ⟨p, q, e⟩ := own_some hL.s.hf (by omega)
            injection e with e1
            exact ⟨p, e1⟩
          have hcu : wr.cell? ⟨pu, k, none⟩ = some (.int .i64 u.1) := by
            have := owns_n hL.s.hu (List.length_map ..)
            rw [this.cellAt k (by omega), List.getElem?_map, List.getElem?_map, hum]; rfl
          have cF := HFIND.out u.1 wr _ _ _ _ _ hur.1 hur.2 hL.s
          have hkz : (k : Int) < (us1.length : Int) := by omega
          obtain ⟨gk', hgk', hgS, hgV⟩ := hL.s.hr k u.2 hat
          have hcf : wr.cell? ⟨pf, k, none⟩ = some (encSl gk') := by
            have := owns_n hL.s.hf hgl
            rw [this.cellAt k (by omega), List.getElem?_map, hgk']; rfl
          have HL := Lib.hid hL
          have HGL := Lib.hid hgl
          have HCH := Lib.hid hch
          have HST := Lib.hid hst
          have HST2 := Lib.hid hst2
          have HUM := Lib.hid hum
          clear hL hum hat hch hst hst2 hgl
          cases hf : findB b.ls u.1 with
          | none =>
            rw [hf] at cF
            have cF2 : Calls Tryz.prog 12 #[.pointer (some ⟨Bx, 0, none⟩), .int .i64 u.1] wr fun e w' => ∃ i : Nat, e = .returned (.tuple #[.int .i64 (i : Int), .bool false]) ∧ Below wr.heap.size wr w' := cF.mono (by rintro e w' ⟨i, h, _, h2⟩; exact ⟨i, h, h2⟩)
            have hn := nowF_none hf
            have E1 := Lib.hid (HST.out (by rw [hn]))
            have E2 : Hid (chF b.ls 0 (us1.take (k + 1)) = chF b.ls 0 (us1.take k)) := by
              show _ = _
              rw [HCH.out, hn, if_pos rfl, List.append_nil]
            clear cF hn hf HST HCH hcf
            go_wp2_with (go_at_call 12; go_loud ((with_reducible refine cF2.mono ?_); rintro e w1 ⟨j, rfl, h⟩))
            go_quiet (fail)
            go_wp2_with fail
            go_roundg g'
            case measure => omega
            case rel =>
              refine ⟨k + 1, cv, gs, cs, by omega, by go_num, rfl, ?_, by omega, hnilc⟩
              rw [E1.out, E2.out]; exact (HL.out.below h).below (below_drewN _ _)
          | some j =>
            obtain ⟨x, hx, hxu⟩ := findB_some hf
            rw [hf] at cF
            have cF2 : Calls Tryz.prog 12 #[.pointer (some ⟨Bx, 0, none⟩), .int .i64 u.1] wr fun e w' => e = .returned (.tuple #[.int .i64 (j : Int), .bool true]) ∧ Below wr.heap.size wr w' := cF.mono (by rintro e w' ⟨i, h, h1, h2⟩; rw [h1.out j rfl] at h; exact ⟨h, h2⟩)
            have hn := nowF_some hf hx
            have HN := Lib.hid hn
            obtain ⟨z, hzj, hzx⟩ : ∃ z, zs[j]? = some z ∧ z.1 = x := by
              have := hx
              rw [← HZ.out, List.getElem?_map] at this
              obtain ⟨z, e1, e2⟩ := Option.map_eq_some_iff.1 this
              exact ⟨z, e1, e2⟩
            have hjl : (j : Int) < (zs.length : Int) := by have := (List.getElem?_eq_some_iff.1 hzj).1; omega
            have hxf := HFL.out x (List.mem_of_getElem? hx)
            obtain ⟨p, off, xa, xc, cap', hv, hz2, _, c1, _, _, hS, hV⟩ := xrow_at (HX.out.kept HL.out.s.hk HSPS.out) hzj
            rw [hzx] at c1 hS hV hz2
            obtain ⟨rfl, rfl⟩ : ao = some ⟨p, off, none⟩ ∧ cap = cap' := by
              injection hv with e1 _ e3
              exact ⟨e1, e3⟩
            obtain ⟨ga, gn, gc⟩ := gk'
            obtain rfl : gn = u.2.length := by
              obtain ⟨a', c', e, _⟩ := hgS
              exact (Value.slice.inj e).2.1
            have dB := (three_cells HL.out.s.hB).2.2
            have dVf := (two_cells HL.out.s.hV).2
            have HGK := Lib.hid hgk'
            have hpl : p < wr.heap.size := World.block_lt_of_cell? _ _ c1
            have hpfl : pf < wr.heap.size := World.block_lt_of_cell? _ _ hcf
            have hBl : Bx < wr.heap.size := World.block_lt_of_cell? _ _ dB
            have hVl : V < wr.heap.size := World.block_lt_of_cell? _ _ dVf
            have HSW := Lib.hid hS; have HVW := Lib.hid hV; have HGS := Lib.hid hgS
            have HZJ := Lib.hid hzj; have HZX := Lib.hid hzx; have HZ2 := Lib.hid hz2
            clear hv cF hn hf hgS hgV hgk' hS hV
            by_cases heq : x.flags = u.2
            · have E1 := Lib.hid (HST.out (by rw [HN.out]; exact heq))
              have E2 : Hid (chF b.ls 0 (us1.take (k + 1)) = chF b.ls 0 (us1.take k)) := by
                show _ = _
                rw [HCH.out, HN.out, if_pos heq, List.append_nil]
              have cE : ∀ w1, Below wr.heap.size wr w1 → ∀ n, Calls Tryz.prog 17 #[.slice xa x.flags.length xc, .slice ga u.2.length gc] (w1.drewN n) fun e w' => e = .returned (.bool true) ∧ ∃ m, w' = (w1.drewN n).drewN m := fun w1 h n => by
                have := equal_quiet (.slice xa x.flags.length xc) (.slice ga u.2.length gc) x.flags u.2 (w1.drewN n) ((HSW.out.below h).below (below_drewN _ _)) ((HGS.out.below h).below (below_drewN _ _)) (by omega) (by omega)
                rw [decide_eq_true heq] at this
                exact this
              clear heq HST HCH HST2 hzj hzx hz2 hx hxu
              go_wp2_with (go_at_call 12; go_loud ((with_reducible refine cF2.mono ?_); rintro e w1 ⟨rfl, h⟩; have dV1 := (h.cell (p := ⟨V, 1, none⟩) hVl).trans dVf; have dB2 := (h.cell (p := ⟨Bx, 2, none⟩) hBl).trans dB; have dX1 := (h.cell (p := ⟨p, off + j * 4 + 1, none⟩) hpl).trans c1; have dG := (h.cell (p := ⟨pf, k, none⟩) hpfl).trans hcf))
              go_quiet ((go_at_call 17; exact Calls.quiet_of (cE _ h _)))
              go_wp2_with fail
              go_roundg g'
              case measure => omega
              case rel =>
                refine ⟨k + 1, cv, gs, cs, by omega, by go_num, rfl, ?_, by omega, hnilc⟩
                rw [E1.out, E2.out]; exact (HL.out.below h).below (below_drewN _ _)
            · have cE : ∀ w1, Below wr.heap.size wr w1 → ∀ n, Calls Tryz.prog 17 #[.slice xa x.flags.length xc, .slice ga u.2.length gc] (w1.drewN n) fun e w' => e = .returned (.bool false) ∧ ∃ m, w' = (w1.drewN n).drewN m := fun w1 h n => by
                have := equal_quiet (.slice xa x.flags.length xc) (.slice ga u.2.length gc) x.flags u.2 (w1.drewN n) ((HSW.out.below h).below (below_drewN _ _)) ((HGS.out.below h).below (below_drewN _ _)) (by omega) (by omega)
                rw [decide_eq_false heq] at this
                exact this
              have HEQ := Lib.hid heq
              clear heq hzj hzx hz2 hx hxu
              go_wp2_with (go_at_call 12; go_loud ((with_reducible refine cF2.mono ?_); rintro e w1 ⟨rfl, h⟩; have dV1 := (h.cell (p := ⟨V, 1, none⟩) hVl).trans dVf; have dB2 := (h.cell (p := ⟨Bx, 2, none⟩) hBl).trans dB; have dX1 := (h.cell (p := ⟨p, off + j * 4 + 1, none⟩) hpl).trans c1; have dG := (h.cell (p := ⟨pf, k, none⟩) hpfl).trans hcf; have L1 := HL.out.below h; have hS1 := Lib.hid (HSW.out.below h); have hV1 := Lib.hid (HVW.out.below h)))
              go_quiet ((go_at_call 17; exact Calls.quiet_of (cE _ h _)))
              go_wp2_with fail
              have heq := HEQ.out
              have hzj := HZJ.out
              have hzx := HZX.out
              have hz2 := HZ2.out
              clear cE
              have L2 := L1.below (below_drewN w1 nq)
              have hS2 := hS1.out.below (below_drewN w1 nq)
              have hV2 := hV1.out.below (below_drewN w1 nq)
              have e1 : (w1.drewN nq).drew.cell? ⟨V, 1, none⟩ = some (.slice (some ⟨pf, 0, none⟩) us1.length fc) := dV1
              have e2 : (w1.drewN nq).drew.cell? ⟨Bx, 2, none⟩ = some (.slice (some ⟨p, off, none⟩) zs.length cap) := dB2
              have e3 : (w1.drewN nq).drew.cell? ⟨p, off + j * 4 + 1, none⟩ = some (.slice xa x.flags.length xc) := dX1
              have L3 := L2.below ((Below.refl _ (w1.drewN nq)).drew)
              have hS3 := Lib.hid (hS2.below ((Below.refl _ (w1.drewN nq)).drew))
              have hV3 := Lib.hid (hV2.below ((Below.refl _ (w1.drewN nq)).drew))
              have HL3 := Lib.hid L3
              clear dV1 dB2 dX1 dG L1 L2 L3 hS2 hV2 hS1 hV1
              refine until_start (S := fun W => W.cell? ⟨V, 1, none⟩ = some (.slice (some ⟨pf, 0, none⟩) us1.length fc) ∧ W.cell? ⟨Bx, 2, none⟩ = some (.slice (some ⟨p, off, none⟩) zs.length cap) ∧ W.cell? ⟨p, off + j * 4 + 1, none⟩ = some (.slice xa x.flags.length xc)) (S0 := fun _ => True) (t := 13) (by kernel_rfl) ?_
              generalize (w1.drewN nq).drew = wd at *
              have hS1' : (fun W : World => W.cell? ⟨V, 1, none⟩ = some (.slice (some ⟨pf, 0, none⟩) us1.length fc) ∧ W.cell? ⟨Bx, 2, none⟩ = some (.slice (some ⟨p, off, none⟩) zs.length cap) ∧ W.cell? ⟨p, off + j * 4 + 1, none⟩ = some (.slice xa x.flags.length xc)) wd := ⟨e1, e2, e3⟩
              clear e1 e2 e3
              refine until_take0 (i := 0) (v := ?w0) rfl (by kernel_rfl) (by kernel_rfl) (by kernel_rfl) (by rfl) (fun _ _ _ h => h) (Or.inl ⟨by rfl, ?z0⟩) trivial (fun _ => hS1') ?q0
              case z0 => (intro W hSw; (try dsimp only at hSw); go_simp; try with_reducible rfl)
              try simp only [Act.put, List.setIfInBounds_toArray, List.set_cons_zero, List.set_cons_succ]
              refine until_take0 (i := 1) (v := ?w1) rfl (by kernel_rfl) (by kernel_rfl) (by kernel_rfl) (by rfl) (fun _ _ _ h => h) (Or.inl ⟨by rfl, ?z1⟩) trivial (fun _ => hS1') ?q1
              case z1 => (intro W hSw; (try dsimp only at hSw); go_simp; try with_reducible rfl)
              try simp only [Act.put, List.setIfInBounds_toArray, List.set_cons_zero, List.set_cons_succ]
              refine until_take0 (i := 2) (v := ?w2) rfl (by kernel_rfl) (by kernel_rfl) (by kernel_rfl) (by rfl) (fun _ _ _ h => h) (Or.inl ⟨by rfl, ?z2⟩) trivial (fun _ => hS1') ?q2
              case z2 => (intro W hSw; (try dsimp only at hSw); go_simp; try with_reducible rfl)
              try simp only [Act.put, List.setIfInBounds_toArray, List.set_cons_zero, List.set_cons_succ]
              refine until_take (i := 3) (v := ?w3) rfl (by kernel_rfl) (by kernel_rfl) (by kernel_rfl) (by kernel_rfl) (fun _ _ _ h => h) (Or.inl ⟨by rfl, ?z3⟩) trivial hS1' ?q3
              case z3 => (intro W hSw; (try dsimp only at hSw); go_simp; try with_reducible rfl)
              try simp only [Act.put, List.setIfInBounds_toArray, List.set_cons_zero, List.set_cons_succ]
              refine until_take0 (i := 4) (v := ?w4) rfl (by kernel_rfl) (by kernel_rfl) (by kernel_rfl) (by rfl) (fun _ _ _ h => h) (Or.inl ⟨by rfl, ?z4⟩) trivial (fun _ => hS1') ?q4
              case z4 => (intro W hSw; (try dsimp only at hSw); go_simp; try with_reducible rfl)
              try simp only [Act.put, List.setIfInBounds_toArray, List.set_cons_zero, List.set_cons_succ]
              refine until_take0 (i := 5) (v := ?w5) rfl (by kernel_rfl) (by kernel_rfl) (by kernel_rfl) (by rfl) (fun _ _ _ h => h) (Or.inl ⟨by rfl, ?z5⟩) trivial (fun _ => hS1') ?q5
              case z5 => (intro W hSw; (try dsimp only at hSw); go_simp; try with_reducible rfl)
              try simp only [Act.put, List.setIfInBounds_toArray, List.set_cons_zero, List.set_cons_succ]
              refine until_take (i := 6) (v := ?w6) rfl (by kernel_rfl) (by kernel_rfl) (by kernel_rfl) (by kernel_rfl) (fun _ _ _ h => h) (Or.inl ⟨by rfl, ?z6⟩) trivial hS1' ?q6
              case z6 => (intro W hSw; (try dsimp only at hSw); go_simp; try with_reducible rfl)
              try simp only [Act.put, List.setIfInBounds_toArray, List.set_cons_zero, List.set_cons_succ]
              refine until_take0 (i := 7) (v := ?w7) rfl (by kernel_rfl) (by kernel_rfl) (by kernel_rfl) (by rfl) (fun _ _ _ h => h) (Or.inl ⟨by rfl, ?z7⟩) trivial (fun _ => hS1') ?q7
              case z7 => (intro W hSw; (try dsimp only at hSw); go_simp; try with_reducible rfl)
              try simp only [Act.put, List.setIfInBounds_toArray, List.set_cons_zero, List.set_cons_succ]
              refine until_take0 (i := 8) (v := ?w8) rfl (by kernel_rfl) (by kernel_rfl) (by kernel_rfl) (by rfl) (fun _ _ _ h => h) (Or.inl ⟨by rfl, ?z8⟩) trivial (fun _ => hS1') ?q8
              case z8 => (intro W hSw; (try dsimp only at hSw); go_simp; try with_reducible rfl)
              try simp only [Act.put, List.setIfInBounds_toArray, List.set_cons_zero, List.set_cons_succ]
              refine until_take0 (i := 9) (v := ?w9) rfl (by kernel_rfl) (by kernel_rfl) (by kernel_rfl) (by rfl) (fun _ _ _ h => h) (Or.inl ⟨by rfl, ?z9⟩) trivial (fun _ => hS1') ?q9
              case z9 => (intro W hSw; (try dsimp only at hSw); go_simp; try with_reducible rfl)
              try simp only [Act.put, List.setIfInBounds_toArray, List.set_cons_zero, List.set_cons_succ]
              refine until_take (i := 10) (v := ?w10) rfl (by kernel_rfl) (by kernel_rfl) (by kernel_rfl) (by kernel_rfl) (fun _ _ _ h => h) (Or.inl ⟨by rfl, ?z10⟩) trivial hS1' ?q10
              case z10 => (intro W hSw; (try dsimp only at hSw); go_simp; try with_reducible rfl)
              try simp only [Act.put, List.setIfInBounds_toArray, List.set_cons_zero, List.set_cons_succ]
              clear hS1'
              refine until_step (i := 11) (by kernel_rfl) rfl (fun K hK => ?_)
              go_simp
              refine (clone_any _ x.flags wd hS3.out hxf).mono ?_
              rintro e w3 ⟨r, rfl, hor, h3⟩
              obtain ⟨ra, rc, rfl⟩ := owns_val hor
              have L4 := HL3.out.below h3
              have hX4 := xrow_at (HX.out.kept L4.s.hk HSPS.out) hzj
              obtain ⟨p4, off4, xa4, xc4, cap4, hv4, hz4, _, c14, _, _, hS4, hV4⟩ := hX4
              rw [hz2] at hz4
              rw [hzx] at hz4 c14 hS4 hV4
              cases hv4; cases hz4
              have hgl4 := HGL.out
              have hof4 := owns_n L4.s.hf hgl4
              have d4 : w3.cell? ⟨pf, k, none⟩ = some (encSl (ga, u.2.length, gc)) := by rw [hof4.cellAt k (by omega), List.getElem?_map, HGK.out]; rfl
              have f4 : w3.frozen? ⟨pf, k, none⟩ = false := hof4.frozenAt k
              have hr4 := srow_owns hor
              have hrv4 := safe_tag (N := N) (stag_owns hor)
              have L5 : LookN N w V Bx b.valid b.next (.slice (some ⟨p, off, none⟩) zs.length cap) uv0 fv0 (w3.setCell ⟨pf, k, none⟩ (.slice ra x.flags.length rc)) (.slice (some ⟨pu, 0, none⟩) us1.length uc) (.slice (some ⟨pf, 0, none⟩) us1.length fc) (us1.map (·.1)) (((stF b.ls us1 k).map (·.2)).set k x.flags) (gs.set k (ra, x.flags.length, rc)) ov vs G1 cv cs (chF b.ls 0 (us1.take k)) := by
                have := L4
                rw [← hgl4] at this ⊢
                exact this.flag (g := (ra, x.flags.length, rc)) (by omega) hr4 hrv4
              have s4 : (fun W : World => W.cell? ⟨V, 1, none⟩ = some (.slice (some ⟨pf, 0, none⟩) us1.length fc) ∧ W.cell? ⟨Bx, 2, none⟩ = some (.slice (some ⟨p, off, none⟩) zs.length cap) ∧ W.cell? ⟨p, off + j * 4 + 1, none⟩ = some (.slice xa x.flags.length xc)) w3 := ⟨(two_cells L4.s.hV).2, (three_cells L4.s.hB).2.2, c14⟩
              have HL5 := Lib.hid L5; have HS4 := Lib.hid s4
              clear L4 L5 hof4 hr4 hrv4 hor hS4 hV4 c14 s4 hgl4
              go_wp2_with fail
              refine hK.out _ _ trivial (fun _ _ => HS4.out) ?_
              clear hK K
              try simp only [Act.put, List.setIfInBounds_toArray, List.set_cons_zero, List.set_cons_succ]
              refine until_step (i := 12) (by kernel_rfl) rfl (fun K hK => ?_)
              go_simp
              refine hK.out _ _ trivial (fun _ _ => HS4.out) ?_
              clear hK K
              try simp only [Act.put, List.setIfInBounds_toArray, List.set_cons_zero, List.set_cons_succ]
              refine until_step (i := 13) (by kernel_rfl) rfl (fun K hK => ?_)
              go_simp
              refine hK.out _ _ trivial (fun h _ => absurd rfl h) ?_
              clear hK K
              try simp only [Act.put, List.setIfInBounds_toArray, List.set_cons_zero, List.set_cons_succ]
              refine until_done (by kernel_rfl) ?_ _
              clear d4 f4 HS4
              obtain ⟨w4, hw4⟩ : ∃ w4, w3.setCell ⟨pf, k, none⟩ (.slice ra x.flags.length rc) = w4 := ⟨_, rfl⟩
              rw [hw4] at HL5 ⊢
              clear hw4
              obtain ⟨p5, off5, xa5, xc5, cap5, hv5, hz5, _, c15, _, _, hS5, hV5⟩ := xrow_at (HX.out.kept HL5.out.s.hk HSPS.out) hzj
              rw [hz2] at hz5
              rw [hzx] at hz5 c15 hS5 hV5
              cases hv5; cases hz5
              have dB5 := (three_cells HL5.out.s.hB).2.2
              have HS5 := Lib.hid hS5
              have hw45 : w.heap.size ≤ w4.heap.size := HL5.out.s.hk.size
              clear hS5 hV5
              go_wp2_with (first
                | (go_at_call 47; go_loud ((with_reducible refine (clone_any _ x.flags w4 HS5.out hxf).mono ?_); rintro e w5 ⟨r2, rfl, hor2, h5⟩; obtain ⟨rb, rd, rfl⟩ := owns_val hor2; have L6 := HL5.out.below h5; have hs6 := srow_owns hor2; have hv6 := safe_tag (N := N) (stag_owns hor2); have HA5 := Lib.hid (alloc_size w5 (.cells #[.int .i64 3, .int .i64 ((k : Int) + 1), .slice rb x.flags.length rd] 103)); have h5s := h5.size))
                | (at_builtin; go_must (refine wpList_append_lies _ rfl _ _ 79 rfl w.heap.size 103 i3 _ 3 40 Tryz.underlying79 hi3 hz30 hz31 hz32 rfl (by omega) cv cs.length (cellsN cs) rfl (L6.c.alloc _) ⟨w5.heap.size, 0, none⟩ 1 1 [.int .i64 3, .int .i64 ((k : Int) + 1), .slice rb x.flags.length rd] rfl rfl (World.news_of_block (World.heap_alloc_new w5 (.cells #[.int .i64 3, .int .i64 ((k : Int) + 1), .slice rb x.flags.length rd] 103))) (by intro u hu; simp only [List.mem_cons, List.not_mem_nil, or_false] at hu; rcases hu with rfl | rfl | rfl <;> rfl) (by omega) (by unfold maxLen; omega) (by omega) (by rw [HA5.out]; omega) (w5.heap.size + 1) HA5.out ?_)))
              intro p7 q7 w7 o7 g7 hp7 _
              have L7 := L6.tellC hNw (x := (3, (k : Int) + 1, (rb, x.flags.length, rd))) (f := x.flags) hs6 hv6 o7 g7 hp7
              have HL7 := Lib.hid L7
              clear L6 L7 o7 g7 hp7 hs6 hv6 hor2 dB5 c15 HA5
              go_wp2_with fail
              go_roundg g'
              case measure => omega
              case rel =>
                refine ⟨k + 1, _, gs.set k (ra, x.flags.length, rc), cs ++ [((3 : Int), (k : Int) + 1, ((rb, x.flags.length, rd) : Option Addr × Nat × Nat))], by omega, by go_num, rfl, ?_, by rw [List.length_append]; simp; omega, fun h => by simp at h⟩
                rw [HST2.out, HCH.out, HN.out, if_neg heq]; exact HL7.out
        · obtain rfl : k = us1.length := by omega
          have HL := Lib.hid hL
          clear hL hgl
          go_wp2_with fail
          go_meet
          refine ⟨cv, gs, cs, rfl, ?_, hcl, hnilc⟩
          have := HL.out
          rw [stF_all, List.take_length] at this
          exact this
    case rest =>
      obtain ⟨cv, gs, cs, rfl, hL, hcl, hnilc⟩ := hcut
      clear HL1
      obtain ⟨us2, hus2⟩ : ∃ us2, us1.map (nowF b.ls) = us2 := ⟨_, rfl⟩
      have h12 : us1.map (·.1) = us2.map (·.1) := by
        rw [← hus2, List.map_map]
        exact List.map_congr_left (fun u _ => (nowF_fst b.ls u).symm)
      have hl12 : us1.length = us2.length := by rw [← hus2, List.length_map]
      rw [hus2, h12] at hL
      have dV := (two_cells hL.s.hV).1
      have dB := (three_cells hL.s.hB).2.2
      have HL2 := Lib.hid hL
      have HUS2 := Lib.hid hus2
      have HL12 := Lib.hid hl12
      obtain ⟨CH, hCH⟩ : ∃ CH, chF b.ls 0 us1 = CH := ⟨_, rfl⟩
      rw [hCH] at HL2
      have HCHH := Lib.hid hCH
      clear hL hus2 h12 hl12 hCH
      go_wp2_with fail
      go_loopg [142] zs.length (fun g s142 wr => ∃ (k : Nat) (uv fv : Value) (gs : List (Option Addr × Nat × Nat)) (T : Us), k + g = zs.length ∧ s142 = .int .i64 (k : Int) ∧ LookN N w V Bx b.valid b.next (.slice ao zs.length cap) uv0 fv0 wr uv fv (T.map (·.1)) (T.map (·.2)) gs ov vs G1 cv cs CH ∧ T.length ≤ us1.length + k ∧ Hid (seeF (b.ls.take k) us2 = T))
      case atStart => exact ⟨0, _, _, gs, us2, by omega, rfl, HL2.out, by rw [HL12.out]; exact Nat.le_refl _, rfl⟩
      case round =>
        obtain ⟨k, uv, fv, gs, T, hk, rfl, hL, hTl, HT⟩ := hrel
        clear HL2 dV dB
        obtain ⟨m, hm⟩ : ∃ m, T.length = m := ⟨_, rfl⟩
        obtain ⟨ua', uc', huv⟩ := owns_val hL.s.hu
        rw [List.length_map, hm] at huv
        subst huv
        have HM := Lib.hid hm
        by_cases hlt : k < zs.length
        · obtain ⟨g', rfl⟩ : ∃ g', gk = g' + 1 := ⟨gk - 1, by omega⟩
          obtain ⟨z, hzk⟩ : ∃ z, zs[k]? = some z := ⟨zs[k], List.getElem?_eq_getElem hlt⟩
          obtain ⟨p, off, xa, xc, cap', hv, hz2, c0, c1, c2, c3, hS, hSV⟩ := xrow_at (HX.out.kept hL.s.hk HSPS.out) hzk
          obtain ⟨rfl, rfl⟩ : ao = some ⟨p, off, none⟩ ∧ cap = cap' := by
            injection hv with e1 _ e3
            exact ⟨e1, e3⟩
          have hlx : b.ls[k]? = some z.1 := by rw [← HZ.out, List.getElem?_map, hzk]; rfl
          have hstep : seeF (b.ls.take (k + 1)) us2 = addF T z.1 := by
            rw [List.take_add_one, hlx]
            show seeF (b.ls.take k ++ [z.1]) us2 = _
            rw [seeF_snoc, HT.out]
          have HSTEP := Lib.hid hstep
          have hfl : z.1.flags.length ≤ 1000000 := HFL.out z.1 (List.mem_of_getElem? hlx)
          have hkz : (k : Int) < (zs.length : Int) := by omega
          have hml : m ≤ 1000000 := by omega
          have hws : w.heap.size ≤ wr.heap.size := hL.s.hk.size
          clear hzk hz2 hlx hstep hv
          obtain ⟨⟨uid, f, dy, tx⟩, zv⟩ := z
          simp only at c0 c1 c2 c3 hS hSV hfl HSTEP
          obtain ⟨fn, hfn⟩ : ∃ fn, f.length = fn := ⟨_, rfl⟩
          rw [hfn] at c1 hS hSV
          have yl : Below wr.heap.size wr (wr.alloc (.cells #[.int .i64 uid, .slice xa fn xc, .int .i64 dy, .string ⟨tx.toArray⟩] 51)) := (Below.refl _ _).alloc (Nat.le_refl _) _
          have xl := World.heap_alloc_new wr (.cells #[.int .i64 uid, .slice xa fn xc, .int .i64 dy, .string ⟨tx.toArray⟩] 51)
          have hLl := hL.below yl
          have hSl := hS.below yl
          have hSVl := hSV.below yl
          obtain ⟨Lb, hLb⟩ : ∃ Lb, wr.heap.size = Lb := ⟨_, rfl⟩
          rw [hLb] at xl
          obtain ⟨l0, l1, _, _⟩ := four_cells xl
          have HFN := Lib.hid hfn
          clear hL hS hSV hm hfn
          go_upto_region 23 with fail
          try rw [hLb]
          clear c0 c1 c2 c3 hLb
          obtain ⟨wl, hwl⟩ : ∃ wl, wr.alloc (.cells #[.int .i64 uid, .slice xa fn xc, .int .i64 dy, .string ⟨tx.toArray⟩] 51) = wl := ⟨_, rfl⟩
          rw [hwl] at xl hLl hSl hSVl l0 l1 yl ⊢
          obtain ⟨ldy, hldy⟩ : ∃ v, Value.int .i64 dy = v := ⟨_, rfl⟩
          obtain ⟨ltx, hltx⟩ : ∃ v, Value.string ⟨tx.toArray⟩ = v := ⟨_, rfl⟩
          rw [hldy, hltx] at xl ⊢
          have XL := Lib.hid xl
          have HSL := Lib.hid hSl
          have HSVL := Lib.hid hSVl
          clear hwl hldy hltx xl hSl hSVl
          have dV := (two_cells hLl.s.hV).1
          rcases List.eq_nil_or_concat T with hT | ⟨T', u, hT⟩
          · have hb : ((m : Int) == 0) = true := by rw [← HM.out, hT]; rfl
            have HNEW : Hid (addF T ⟨uid, f, dy, tx⟩ = T ++ [(uid, f)]) := by
              show _ = _
              rw [hT]; rfl
            have HLL := Lib.hid hLl
            clear hT hLl l1
            go_quiet (fail)
            go_wp2_with fail
            have hLl := HLL.out
            clear dV l0 HLL hb
            have hLq := hLl.below (below_drewN wl nq)
            have hLt : (wl.drewN nq).heap[Lb]? = some (.cells #[.int .i64 uid, .slice xa fn xc, ldy, ltx] 51 (0, 0)) := XL.out
            have hFSq : SRow (wl.drewN nq) (.slice xa fn xc) f := HSL.out.below (below_drewN wl nq)
            have hSVq : SafeV N (wl.drewN nq) (.slice xa fn xc) := HSVL.out.below (below_drewN wl nq)
            clear hLl
            obtain ⟨wq, hwq⟩ : ∃ wq, wl.drewN nq = wq := ⟨_, rfl⟩
            rw [hwq] at hLq hLt hFSq hSVq ⊢
            clear hwq
            have hV := hLq.s.hV
            have hL := hLt
            have hou := owns_n hLq.s.hu ((List.length_map ..).trans HM.out)
            have hof := owns_n hLq.s.hf (hLq.s.hl.trans ((List.length_map ..).trans HM.out))
            obtain ⟨us9, hus9⟩ : ∃ us9, (T.map (·.1)).map (Value.int .i64) = us9 := ⟨_, rfl⟩
            rw [hus9] at hou
            have HFS := Lib.hid hFSq
            have hSf2 := Lib.hid hSVq
            have hbase : N ≤ wq.heap.size := by have := hLq.s.hk.size; omega
            obtain ⟨uv, huv⟩ : ∃ uv, uv = Value.slice ua' m uc' := ⟨_, rfl⟩
            rw [← huv] at hLq hV hou ⊢
            have HLQ := Lib.hid hLq
            have HEQ := Lib.hid (show True ∧ True ∧ True ∧ True ∧ (T.map (·.1)).map (Value.int .i64) = us9 ∧ T.length = m from ⟨trivial, trivial, trivial, trivial, hus9, HM.out⟩)
            have hkeep : ∀ wd w2, Below wq.heap.size wq wd → SRow wd (.slice xa fn xc) f → Kept (fun j => uv.ownBlock = some j) wd w2 → SRow w2 (.slice xa fn xc) f := by
              intro wd w2 k1 h1 k2
              have how := owns_same HLQ.out.s.hu (fun j o hj _ => below_same k1 hj)
              exact h1.kept (hSf2.out.below k1) k2 (spares_own how (Nat.le_refl _) (by decide) (by decide))
            clear hus9 huv hLt hFSq hSVq hLq
            have hVd : wq.drew.heap[V]? = some (.cells #[uv, fv] 65 (0, 0)) := hV
            have hLd : wq.drew.heap[Lb]? = some (.cells #[.int .i64 uid, .slice xa fn xc, ldy, ltx] 51 (0, 0)) := hL
            have houd := hou.drew
            have hofd := hof.drew
            have hFd : Hid (SRow wq.drew (.slice xa fn xc) f) := HFS.out.below ((Below.refl _ wq).drew)
            have hbd : N ≤ wq.drew.heap.size := hbase
            have hS0 : (fun W : World => W.cell? ⟨Lb, 0, none⟩ = some (.int .i64 uid) ∧ W.cell? ⟨Lb, 1, none⟩ = some (.slice xa fn xc)) wq.drew := ⟨(four_cells hLd).1, (four_cells hLd).2.1⟩
            have hS1 : (fun W : World => W.cell? ⟨V, 0, none⟩ = some uv ∧ W.cell? ⟨V, 1, none⟩ = some fv) wq.drew := ⟨(two_cells hVd).1, (two_cells hVd).2⟩
            obtain ⟨i1, hi1, hz10, hz11, hz12⟩ := info_parts infoRowI
            obtain ⟨i2, hi2, hz20, hz21, hz22⟩ := info_parts infoRowS
            have kd : Below wq.heap.size wq wq.drew := (Below.refl _ wq).drew
            refine until_start (S := fun W => W.cell? ⟨V, 0, none⟩ = some uv ∧ W.cell? ⟨V, 1, none⟩ = some fv) (S0 := fun W => W.cell? ⟨Lb, 0, none⟩ = some (.int .i64 uid) ∧ W.cell? ⟨Lb, 1, none⟩ = some (.slice xa fn xc)) (t := 21) (by kernel_rfl) ?_
            generalize wq.drew = wd at *
            refine until_take0 (i := 0) (v := ?v0_1) rfl (by kernel_rfl) (by kernel_rfl) (by kernel_rfl) (by rfl) (fun _ _ _ h => h) (Or.inl ⟨by rfl, ?y0_1⟩) hS0 (fun _ => hS1) ?r0_1
            case y0_1 => (intro W hSw; (try dsimp only at hSw); go_simp; try with_reducible rfl)
            try simp only [Act.put, List.setIfInBounds_toArray, List.set_cons_zero, List.set_cons_succ]
            refine until_take0 (i := 1) (v := ?v1_1) rfl (by kernel_rfl) (by kernel_rfl) (by kernel_rfl) (by rfl) (fun _ _ _ h => h) (Or.inl ⟨by rfl, ?y1_1⟩) hS0 (fun _ => hS1) ?r1_1
            case y1_1 => (intro W hSw; (try dsimp only at hSw); go_simp; try with_reducible rfl)
            try simp only [Act.put, List.setIfInBounds_toArray, List.set_cons_zero, List.set_cons_succ]
            refine until_take0 (i := 2) (v := ?v2_1) rfl (by kernel_rfl) (by kernel_rfl) (by kernel_rfl) (by rfl) (fun _ _ _ h => h) (Or.inl ⟨by rfl, ?y2_1⟩) hS0 (fun _ => hS1) ?r2_1
            case y2_1 => (intro W hSw; (try dsimp only at hSw); go_simp; try with_reducible rfl)
            try simp only [Act.put, List.setIfInBounds_toArray, List.set_cons_zero, List.set_cons_succ]
            refine until_take0 (i := 3) (v := ?v3_1) rfl (by kernel_rfl) (by kernel_rfl) (by kernel_rfl) (by rfl) (fun _ _ _ h => h) (Or.inl ⟨by rfl, ?y3_1⟩) hS0 (fun _ => hS1) ?r3_1
            case y3_1 => (intro W hSw; (try dsimp only at hSw); go_simp; try with_reducible rfl)
            try simp only [Act.put, List.setIfInBounds_toArray, List.set_cons_zero, List.set_cons_succ]
            refine until_take0 (i := 4) (v := ?v4_1) rfl (by kernel_rfl) (by kernel_rfl) (by kernel_rfl) (by rfl) (fun _ _ _ h => h) (Or.inl ⟨by rfl, ?y4_1⟩) hS0 (fun _ => hS1) ?r4_1
            case y4_1 => (intro W hSw; (try dsimp only at hSw); go_simp; try with_reducible rfl)
            try simp only [Act.put, List.setIfInBounds_toArray, List.set_cons_zero, List.set_cons_succ]
            refine until_take (i := 5) (v := ?v5_1) rfl (by kernel_rfl) (by kernel_rfl) (by kernel_rfl) (by kernel_rfl) (fun _ _ _ h => h) (Or.inl ⟨by rfl, ?y5_1⟩) hS0 hS1 ?r5_1
            case y5_1 => (intro W hSw; (try dsimp only at hSw); go_simp; try with_reducible rfl)
            try simp only [Act.put, List.setIfInBounds_toArray, List.set_cons_zero, List.set_cons_succ]
            refine until_take0 (i := 6) (v := ?v6_1) rfl (by kernel_rfl) (by kernel_rfl) (by kernel_rfl) (by rfl) (fun _ _ _ h => h) (Or.inl ⟨by rfl, ?y6_1⟩) hS0 (fun _ => hS1) ?r6_1
            case y6_1 => (intro W hSw; (try dsimp only at hSw); go_simp; try with_reducible rfl)
            try simp only [Act.put, List.setIfInBounds_toArray, List.set_cons_zero, List.set_cons_succ]
            refine until_take0 (i := 7) (v := ?v7_1) rfl (by kernel_rfl) (by kernel_rfl) (by kernel_rfl) (by rfl) (fun _ _ _ h => h) (Or.inl ⟨by rfl, ?y7_1⟩) hS0 (fun _ => hS1) ?r7_1
            case y7_1 => (intro W hSw; (try dsimp only at hSw); go_simp; try with_reducible rfl)
            try simp only [Act.put, List.setIfInBounds_toArray, List.set_cons_zero, List.set_cons_succ]
            refine until_take0 (i := 10) (v := ?v10_1) rfl (by kernel_rfl) (by kernel_rfl) (by kernel_rfl) (by rfl) (fun _ _ _ h => h) (Or.inl ⟨by rfl, ?y10_1⟩) hS0 (fun _ => hS1) ?r10_1
            case y10_1 => (intro W hSw; (try dsimp only at hSw); go_simp; try with_reducible rfl)
            try simp only [Act.put, List.setIfInBounds_toArray, List.set_cons_zero, List.set_cons_succ]
            refine until_take0 (i := 11) (v := ?v11_1) rfl (by kernel_rfl) (by kernel_rfl) (by kernel_rfl) (by rfl) (fun _ _ _ h => h) (Or.inl ⟨by rfl, ?y11_1⟩) hS0 (fun _ => hS1) ?r11_1
            case y11_1 => (intro W hSw; (try dsimp only at hSw); go_simp; try with_reducible rfl)
            try simp only [Act.put, List.setIfInBounds_toArray, List.set_cons_zero, List.set_cons_succ]
            refine until_take0 (i := 12) (v := ?v12_1) rfl (by kernel_rfl) (by kernel_rfl) (by kernel_rfl) (by rfl) (fun _ _ _ h => h) (Or.inl ⟨by rfl, ?y12_1⟩) hS0 (fun _ => hS1) ?r12_1
            case y12_1 => (intro W hSw; (try dsimp only at hSw); go_simp; try with_reducible rfl)
            try simp only [Act.put, List.setIfInBounds_toArray, List.set_cons_zero, List.set_cons_succ]
            refine until_take (i := 13) (v := ?v13_1) rfl (by kernel_rfl) (by kernel_rfl) (by kernel_rfl) (by kernel_rfl) (fun _ _ _ h => h) (Or.inl ⟨by rfl, ?y13_1⟩) hS0 hS1 ?r13_1
            case y13_1 => (intro W hSw; (try dsimp only at hSw); go_simp; try with_reducible rfl)
            try simp only [Act.put, List.setIfInBounds_toArray, List.set_cons_zero, List.set_cons_succ]
            refine until_take0 (i := 14) (v := ?v14_1) rfl (by kernel_rfl) (by kernel_rfl) (by kernel_rfl) (by rfl) (fun _ _ _ h => h) (Or.inl ⟨by rfl, ?y14_1⟩) hS0 (fun _ => hS1) ?r14_1
            case y14_1 => (intro W hSw; (try dsimp only at hSw); go_simp; try with_reducible rfl)
            try simp only [Act.put, List.setIfInBounds_toArray, List.set_cons_zero, List.set_cons_succ]
            refine until_take0 (i := 15) (v := ?v15_1) rfl (by kernel_rfl) (by kernel_rfl) (by kernel_rfl) (by rfl) (fun _ _ _ h => h) (Or.inl ⟨by rfl, ?y15_1⟩) hS0 (fun _ => hS1) ?r15_1
            case y15_1 => (intro W hSw; (try dsimp only at hSw); go_simp; try with_reducible rfl)
            try simp only [Act.put, List.setIfInBounds_toArray, List.set_cons_zero, List.set_cons_succ]
            have xN1 := World.heap_alloc_new wd (.cells #[.int .i64 uid] 3)
            have hN1 : ∀ (j : Nat) (u : Value), [Value.int .i64 uid][j]? = some u → (wd.alloc (.cells #[.int .i64 uid] 3)).cell? ((⟨wd.heap.size, 0, none⟩ : Addr).add j) = some u := World.news_of_block xN1
            have HN1 := Lib.hid hN1
            have hVa := alloc_at (o := .cells #[.int .i64 uid] 3) hVd
            have hLa := alloc_at (o := .cells #[.int .i64 uid] 3) hLd
            have houa := houd.alloc (.cells #[.int .i64 uid] 3)
            have hsa := alloc_size wd (.cells #[.int .i64 uid] 3)
            have hba : N ≤ (wd.alloc (.cells #[.int .i64 uid] 3)).heap.size := by rw [hsa]; omega
            have HSA := Lib.hid hsa
            have HOUA := Lib.hid houa
            have HOUD := Lib.hid houd
            have HOFD := Lib.hid hofd
            have HVD := Lib.hid hVd
            have HLD := Lib.hid hLd
            have HVA := Lib.hid hVa
            have HLA := Lib.hid hLa
            clear hsa houa hofd hVd hLd hVa hLa xN1 hN1 hS0 hS1 houd
            refine until_step (i := 8) (by kernel_rfl) rfl (fun K hK => ?_)
            go_simp
            refine hK.out _ _ ⟨(four_cells HLA.out).1, (four_cells HLA.out).2.1⟩ (fun _ _ => ⟨(two_cells HVA.out).1, (two_cells HVA.out).2⟩) ?_
            clear hK K
            try simp only [Act.put, List.setIfInBounds_toArray, List.set_cons_zero, List.set_cons_succ]
            refine until_step (i := 9) (by kernel_rfl) rfl (fun K hK => ?_)
            refine step_append_lies _ (by rfl) (.tmp 174) (.tmp 177) 46 (by rfl) N 3 i1 _ 1 8 Tryz.underlying46 hi1 hz10 hz11 hz12 (by rfl) (by omega) uv m us9 (by rfl) HOUA.out ⟨wd.heap.size, 0, none⟩ 1 1 [.int .i64 uid] (by rfl) (by rfl) HN1.out (by intro u hu; obtain rfl := List.mem_singleton.1 hu; rfl) (by omega) (by unfold maxLen; omega) (by omega) hba (wd.heap.size + 1) HSA.out ?_
            intro p1 q1 w2 ho1 hg1 hp1 hp1l
            have hV2 := app_keeps HVD.out (by intro c fz h; cases h) HOUD.out hg1
            have hL2 := app_keeps HLD.out (by intro c fz h; cases h) HOUD.out hg1
            have hof2 := owns_app HOFD.out HOUD.out hg1 (by decide)
            have HP1 := Lib.hid hp1
            have kd2 : Kept (fun j => uv.ownBlock = some j) wd w2 := ((Kept.refl _ wd).alloc _).trans ((kept_grown hg1).mono (fun j _ h => h))
            have hg1s := hg1.size
            rw [HSA.out] at hg1s
            have hF2 : Hid (SRow w2 (.slice xa fn xc) f) := hkeep wd w2 kd hFd.out kd2
            have HV2 := Lib.hid hV2; have HL2 := Lib.hid hL2; have HOF2 := Lib.hid hof2; have HO1 := Lib.hid ho1; have HK2 := Lib.hid kd2
            clear hV2 hL2 hof2 ho1 hg1 hp1 kd2 HN1 HOUA HVA HLA hba
            refine hK.out _ _ ⟨(four_cells HL2.out).1, (four_cells HL2.out).2.1⟩ (fun _ _ => ⟨(two_cells HV2.out).1, (two_cells HV2.out).2⟩) ?_
            clear hK K
            try simp only [Act.put, List.setIfInBounds_toArray, List.set_cons_zero, List.set_cons_succ]
            refine until_step (i := 16) (by kernel_rfl) rfl (fun K hK => ?_)
            go_simp
            refine (clone_any _ f w2 hF2.out hfl).mono ?_
            rintro e w3 ⟨r, rfl, hor, h3⟩
            obtain ⟨ra, rc, rfl⟩ := owns_val hor
            have hV3 := below_same h3 HV2.out
            have hL3 := below_same h3 HL2.out
            have hof3 := owns_same HOF2.out (fun j o hj _ => below_same h3 hj)
            have ho3 := owns_same HO1.out (fun j o hj _ => below_same h3 hj)
            have hr3 := srow_owns hor
            have hrs := safe_tag (N := N) (stag_owns hor)
            have HV3 := Lib.hid hV3; have HL3 := Lib.hid hL3; have HOF3 := Lib.hid hof3; have HO3 := Lib.hid ho3; have HR3 := Lib.hid hr3; have HRS := Lib.hid hrs
            clear hV3 hL3 hof3 ho3 hr3 hrs hor HV2 HL2 HOF2 HO1
            go_wp2_with fail
            refine hK.out _ _ ⟨(four_cells HL3.out).1, (four_cells HL3.out).2.1⟩ (fun _ _ => ⟨(two_cells HV3.out).1, (two_cells HV3.out).2⟩) ?_
            clear hK K
            try simp only [Act.put, List.setIfInBounds_toArray, List.set_cons_zero, List.set_cons_succ]
            have hVa := alloc_at (o := .cells #[.slice ra f.length rc] 35) HV3.out
            have hLa := alloc_at (o := .cells #[.slice ra f.length rc] 35) HL3.out
            have hofa := HOF3.out.alloc (.cells #[.slice ra f.length rc] 35)
            have hsa := alloc_size w3 (.cells #[.slice ra f.length rc] 35)
            have h3s := h3.size
            have hba : N ≤ (w3.alloc (.cells #[.slice ra f.length rc] 35)).heap.size := by rw [hsa]; omega
            have hN2 : ∀ (j : Nat) (u : Value), [Value.slice ra f.length rc][j]? = some u → (w3.alloc (.cells #[.slice ra f.length rc] 35)).cell? ((⟨w3.heap.size, 0, none⟩ : Addr).add j) = some u := World.news_of_block (World.heap_alloc_new w3 (.cells #[.slice ra f.length rc] 35))
            have HSA3 := Lib.hid hsa; have HOFA := Lib.hid hofa; have HVA := Lib.hid hVa; have HLA := Lib.hid hLa; have HN2 := Lib.hid hN2
            clear hsa hofa hVa hLa hN2
            refine until_step (i := 17) (by kernel_rfl) rfl (fun K hK => ?_)
            go_simp
            refine hK.out _ _ ⟨(four_cells HLA.out).1, (four_cells HLA.out).2.1⟩ (fun _ _ => ⟨(two_cells HVA.out).1, (two_cells HVA.out).2⟩) ?_
            clear hK K
            try simp only [Act.put, List.setIfInBounds_toArray, List.set_cons_zero, List.set_cons_succ]
            refine until_step (i := 18) (by kernel_rfl) rfl (fun K hK => ?_)
            refine step_append_lies _ (by rfl) (.tmp 182) (.tmp 186) 63 (by rfl) N 35 i2 _ 1 24 Tryz.underlying63 hi2 hz20 hz21 hz22 (by rfl) (by omega) fv m (gs.map encSl) (by rfl) HOFA.out ⟨w3.heap.size, 0, none⟩ 1 1 [.slice ra f.length rc] (by rfl) (by rfl) HN2.out (by intro u hu; obtain rfl := List.mem_singleton.1 hu; rfl) (by omega) (by unfold maxLen; omega) (by omega) hba (w3.heap.size + 1) HSA3.out ?_
            intro p2 q2 w4 ho2 hg2 hp2 hp2l
            have hV4 := app_keeps HV3.out (by intro c fz h; cases h) HOF3.out hg2
            have hL4 := app_keeps HL3.out (by intro c fz h; cases h) HOF3.out hg2
            have ho14 := owns_app HO3.out HOF3.out hg2 (by decide)
            have HP2 := Lib.hid hp2
            have hg2s := hg2.size
            rw [HSA3.out] at hg2s
            have kd4 : Kept (fun j => fv.ownBlock = some j) w3 w4 := ((Kept.refl _ w3).alloc _).trans ((kept_grown hg2).mono (fun j _ h => h))
            have hrs4 : Hid (SRow w4 (.slice ra f.length rc) f ∧ SafeV N w4 (.slice ra f.length rc)) := by
              have hsp : Spares N w3 (fun j => fv.ownBlock = some j) := fun j hj e => ⟨by have := (HOF3.out.lt j e).1; omega, by
                intro hl
                rcases HOF3.out.2 with ⟨rfl, _⟩ | ⟨g, cap, cur, rfl, _, hh, _⟩
                · cases e
                · cases e; exact not_lettered hh (by decide) (by decide) hl⟩
              exact ⟨HR3.out.kept HRS.out kd4 hsp, HRS.out.kept kd4 hsp⟩
            have k24 : Kept (fun j => fv.ownBlock = some j) w2 w4 := (kept_below h3).trans kd4
            have f0 : w4.frozen? ⟨V, 0, none⟩ = false := Lib.frozen_of_heap hV4 0
            have f1 : w4.frozen? ⟨V, 1, none⟩ = false := Lib.frozen_of_heap hV4 1
            have d0 := (two_cells hV4).1
            have d1 := (two_cells hV4).2
            have hneL : V ≠ Lb := ne_of_obj hV4 hL4 (by intro h; cases h)
            have HV4 := Lib.hid hV4; have HL4 := Lib.hid hL4; have HO14 := Lib.hid ho14; have HO2 := Lib.hid ho2; have HK24 := Lib.hid k24
            clear hV4 hL4 ho14 ho2 hg2 hp2 kd4 k24 HOFA HVA HLA HV3 HL3 HOF3 HO3 HN2
            refine hK.out _ _ ⟨(four_cells HL4.out).1, (four_cells HL4.out).2.1⟩ (fun _ _ => ⟨(two_cells HV4.out).1, (two_cells HV4.out).2⟩) ?_
            clear hK K
            try simp only [Act.put, List.setIfInBounds_toArray, List.set_cons_zero, List.set_cons_succ]
            refine until_step (i := 19) (by kernel_rfl) rfl (fun K hK => ?_)
            go_simp
            refine hK.out _ _ ⟨(four_cells HL4.out).1, (four_cells HL4.out).2.1⟩ (fun _ _ => ⟨(two_cells HV4.out).1, (two_cells HV4.out).2⟩) ?_
            clear hK K
            try simp only [Act.put, List.setIfInBounds_toArray, List.set_cons_zero, List.set_cons_succ]
            refine until_step (i := 20) (by kernel_rfl) rfl (fun K hK => ?_)
            go_simp
            refine hK.out _ _ ⟨(four_cells HL4.out).1, (four_cells HL4.out).2.1⟩ (fun _ _ => ⟨(two_cells HV4.out).1, (two_cells HV4.out).2⟩) ?_
            clear hK K
            try simp only [Act.put, List.setIfInBounds_toArray, List.set_cons_zero, List.set_cons_succ]
            have hL5 := setCell_same (u := .slice (some ⟨p1, 0, none⟩) (m + 1) q1) (a := ⟨V, 0, none⟩) HL4.out (fun h => hneL h.symm)
            have hV5 := set2_0 (u := .slice (some ⟨p1, 0, none⟩) (m + 1) q1) HV4.out
            have HL5 := Lib.hid hL5; have HV5 := Lib.hid hV5
            clear hL5 hV5
            refine until_step (i := 21) (by kernel_rfl) rfl (fun K hK => ?_)
            go_simp
            refine hK.out _ _ ⟨(four_cells HL5.out).1, (four_cells HL5.out).2.1⟩ (fun h _ => absurd rfl h) ?_
            clear hK K
            try simp only [Act.put, List.setIfInBounds_toArray, List.set_cons_zero, List.set_cons_succ]
            refine until_step (i := 22) (by kernel_rfl) rfl (fun K hK => ?_)
            go_simp
            refine hK.out _ _ ⟨(four_cells HL5.out).1, (four_cells HL5.out).2.1⟩ (fun _ h => absurd h (by decide)) ?_
            clear hK K
            try simp only [Act.put, List.setIfInBounds_toArray, List.set_cons_zero, List.set_cons_succ]
            refine until_step (i := 23) (by kernel_rfl) rfl (fun K hK => ?_)
            go_simp
            refine hK.out _ _ ⟨(four_cells HL5.out).1, (four_cells HL5.out).2.1⟩ (fun _ h => absurd h (by decide)) ?_
            clear hK K
            try simp only [Act.put, List.setIfInBounds_toArray, List.set_cons_zero, List.set_cons_succ]
            have hL6 := setCell_same (u := .slice (some ⟨p2, 0, none⟩) (m + 1) q2) (a := ⟨V, 1, none⟩) HL5.out (fun h => hneL h.symm)
            have HL6 := Lib.hid hL6
            clear hL6
            refine until_step (i := 24) (by kernel_rfl) rfl (fun K hK => ?_)
            go_simp
            refine hK.out _ _ ⟨(four_cells HL6.out).1, (four_cells HL6.out).2.1⟩ (fun _ h => absurd h (by decide)) ?_
            clear hK K
            try simp only [Act.put, List.setIfInBounds_toArray, List.set_cons_zero, List.set_cons_succ]
            refine until_done (by kernel_rfl) ?_ _

            obtain ⟨hLb, huid, hfn, hf, hus, hm⟩ := HEQ.out
            have kset : Kept (fun j => j = V) w4 ((w4.setCell ⟨V, 0, none⟩ (.slice (some ⟨p1, 0, none⟩) (m + 1) q1)).setCell ⟨V, 1, none⟩ (.slice (some ⟨p2, 0, none⟩) (m + 1) q2)) := Kept.setB (Kept.setB (Kept.refl _ w4) _) _
            have hKall : Kept (fun j => j = V ∨ uv.ownBlock = some j ∨ fv.ownBlock = some j) wq ((w4.setCell ⟨V, 0, none⟩ (.slice (some ⟨p1, 0, none⟩) (m + 1) q1)).setCell ⟨V, 1, none⟩ (.slice (some ⟨p2, 0, none⟩) (m + 1) q2)) :=
              (((kept_below kd).trans (HK2.out.mono (fun _ _ h => Or.inr (Or.inl h)))).trans (HK24.out.mono (fun _ _ h => Or.inr (Or.inr h)))).trans (kset.mono (fun _ _ h => Or.inl h))
            have hsp4 : Spares N w4 (fun j => j = V) := spares_at HV4.out hN (by decide) (by decide)
            have hspq : Spares N wq (fun j => j = V ∨ uv.ownBlock = some j ∨ fv.ownBlock = some j) := spares_view HLQ.out.s.hV hN HLQ.out.s.hu HLQ.out.s.hf
            have ho6 := owns_setAny (u := .slice (some ⟨p2, 0, none⟩) (m + 1) q2) (i := 1) (owns_setAny (u := .slice (some ⟨p1, 0, none⟩) (m + 1) q1) (i := 0) HO14.out HV4.out (by decide)) HV5.out (by decide)
            have hf6 := owns_setAny (u := .slice (some ⟨p2, 0, none⟩) (m + 1) q2) (i := 1) (owns_setAny (u := .slice (some ⟨p1, 0, none⟩) (m + 1) q1) (i := 0) HO2.out HV4.out (by decide)) HV5.out (by decide)
            have hr6 := hrs4.out.1.kept hrs4.out.2 kset hsp4
            have hs6 := hrs4.out.2.kept kset hsp4
            have hRn := (HLQ.out.s.hr.kept hKall hspq).snoc HLQ.out.s.hl (g := (ra, f.length, rc)) (f := f) hr6 hs6
            have hgl6 : gs.length = m := by rw [HLQ.out.s.hl, List.length_map]; exact hm
            have kds := kd.size
            have hLG := HLQ.out.grow hN hNw (uv' := .slice (some ⟨p1, 0, none⟩) (m + 1) q1) (fv' := .slice (some ⟨p2, 0, none⟩) (m + 1) q2) (ui' := (T ++ [(uid, f)]).map (·.1)) (fls' := (T ++ [(uid, f)]).map (·.2)) (gs' := gs ++ [(ra, f.length, rc)]) hKall (set2_1 HV5.out)
              (by have e : ((T ++ [(uid, f)]).map (·.1)).map (Value.int .i64) = us9 ++ [.int .i64 uid] := by rw [List.map_append, List.map_append, hus]; rfl
                  rw [e]; exact owns_n ho6 (by rw [List.length_map, List.length_append]; simp; omega))
              (by have e : (gs ++ [(ra, f.length, rc)]).map encSl = gs.map encSl ++ [.slice ra f.length rc] := by rw [List.map_append]; rfl
                  rw [e]; exact owns_n hf6 (by rw [List.length_append]; simp; omega))
              (by rw [List.length_append, List.length_map, List.length_append, hgl6, hm]; rfl)
              (by rw [List.map_append]; exact hRn)
              (own_fresh HP1.out (by omega)) (own_fresh HP2.out (by omega))
            have HLG := Lib.hid hLG
            clear hLb huid hfn hf hus hm kset hKall hspq hsp4 hr6 hs6 hrs4 hRn ho6 hf6 hLG hgl6 kds
            go_wp2_with fail
            go_roundg g'
            case measure => omega
            case rel =>
              refine ⟨k + 1, .slice (some ⟨p1, 0, none⟩) (m + 1) q1, .slice (some ⟨p2, 0, none⟩) (m + 1) q2, gs ++ [(ra, f.length, rc)], T ++ [(uid, f)], by omega, by go_num, HLG.out, by rw [List.length_append]; simp; omega, ?_⟩
              show _ = _
              rw [HSTEP.out]; exact HNEW.out
          · rw [List.concat_eq_append] at hT
            obtain ⟨n1, hn1⟩ : ∃ n1, m = n1 + 1 := ⟨m - 1, by rw [← HM.out, hT, List.length_append]; simp⟩
            have hT'l : T'.length = n1 := by
              have := HM.out
              rw [hT, List.length_append, hn1] at this
              simpa using this
            have hb : ((m : Int) == 0) = false := by rw [beq_eq_false_iff_ne]; omega
            have hmn : (m : Int) - 1 = (n1 : Int) := by omega
            have hw1 : IntKind.i64.wrap (n1 : Int) = (n1 : Int) := IntWalk.i64_in _ (by omega)
            have hn1z : (n1 : Int) < (m : Int) := by omega
            obtain ⟨pu, rfl⟩ : ∃ p, ua' = some ⟨p, 0, none⟩ := by
              obtain ⟨p, q, e⟩ := own_some hLl.s.hu (by rw [List.length_map, HM.out]; omega)
              injection e with e1
              exact ⟨p, e1⟩
            have hlast : wl.cell? ⟨pu, n1, none⟩ = some (.int .i64 u.1) := by
              have := owns_n hLl.s.hu ((List.length_map ..).trans HM.out)
              rw [this.cellAt n1 (by omega), List.getElem?_map, List.getElem?_map, hT, List.getElem?_append_right (by omega), hT'l, Nat.sub_self]
              rfl
            have hlast2 : lastU T = some u.1 := by
              unfold lastU
              rw [hT]
              simp
            have HB := Lib.hid hb
            have HLL := Lib.hid hLl
            clear hT'l hLl l1 hn1
            by_cases hgt : u.1 < uid
            · have hg : decide (u.1 < uid) = true := decide_eq_true hgt
              have HNEW : Hid (addF T ⟨uid, f, dy, tx⟩ = T ++ [(uid, f)]) := by
                show _ = _
                unfold addF newB
                rw [hlast2]
                simp [hg]
              clear hT hlast2 hgt
              go_quiet (fail)
              go_wp2_with fail
              have hLl := HLL.out
              clear dV l0 HLL hb hmn hw1 hn1z hlast hg
              obtain ⟨ua', hua⟩ : ∃ ua', some (⟨pu, 0, none⟩ : Addr) = ua' := ⟨_, rfl⟩
              rw [hua] at hLl ⊢
              clear hua
              have hLq := hLl.below (below_drewN wl nq)
              have hLt : (wl.drewN nq).heap[Lb]? = some (.cells #[.int .i64 uid, .slice xa fn xc, ldy, ltx] 51 (0, 0)) := XL.out
              have hFSq : SRow (wl.drewN nq) (.slice xa fn xc) f := HSL.out.below (below_drewN wl nq)
              have hSVq : SafeV N (wl.drewN nq) (.slice xa fn xc) := HSVL.out.below (below_drewN wl nq)
              clear hLl
              obtain ⟨wq, hwq⟩ : ∃ wq, wl.drewN nq = wq := ⟨_, rfl⟩
              rw [hwq] at hLq hLt hFSq hSVq ⊢
              clear hwq
              have hV := hLq.s.hV
              have hL := hLt
              have hou := owns_n hLq.s.hu ((List.length_map ..).trans HM.out)
              have hof := owns_n hLq.s.hf (hLq.s.hl.trans ((List.length_map ..).trans HM.out))
              obtain ⟨us9, hus9⟩ : ∃ us9, (T.map (·.1)).map (Value.int .i64) = us9 := ⟨_, rfl⟩
              rw [hus9] at hou
              have HFS := Lib.hid hFSq
              have hSf2 := Lib.hid hSVq
              have hbase : N ≤ wq.heap.size := by have := hLq.s.hk.size; omega
              obtain ⟨uv, huv⟩ : ∃ uv, uv = Value.slice ua' m uc' := ⟨_, rfl⟩
              rw [← huv] at hLq hV hou ⊢
              have HLQ := Lib.hid hLq
              have HEQ := Lib.hid (show True ∧ True ∧ True ∧ True ∧ (T.map (·.1)).map (Value.int .i64) = us9 ∧ T.length = m from ⟨trivial, trivial, trivial, trivial, hus9, HM.out⟩)
              have hkeep : ∀ wd w2, Below wq.heap.size wq wd → SRow wd (.slice xa fn xc) f → Kept (fun j => uv.ownBlock = some j) wd w2 → SRow w2 (.slice xa fn xc) f := by
                intro wd w2 k1 h1 k2
                have how := owns_same HLQ.out.s.hu (fun j o hj _ => below_same k1 hj)
                exact h1.kept (hSf2.out.below k1) k2 (spares_own how (Nat.le_refl _) (by decide) (by decide))
              clear hus9 huv hLt hFSq hSVq hLq
              have hVd : wq.drew.heap[V]? = some (.cells #[uv, fv] 65 (0, 0)) := hV
              have hLd : wq.drew.heap[Lb]? = some (.cells #[.int .i64 uid, .slice xa fn xc, ldy, ltx] 51 (0, 0)) := hL
              have houd := hou.drew
              have hofd := hof.drew
              have hFd : Hid (SRow wq.drew (.slice xa fn xc) f) := HFS.out.below ((Below.refl _ wq).drew)
              have hbd : N ≤ wq.drew.heap.size := hbase
              have hS0 : (fun W : World => W.cell? ⟨Lb, 0, none⟩ = some (.int .i64 uid) ∧ W.cell? ⟨Lb, 1, none⟩ = some (.slice xa fn xc)) wq.drew := ⟨(four_cells hLd).1, (four_cells hLd).2.1⟩
              have hS1 : (fun W : World => W.cell? ⟨V, 0, none⟩ = some uv ∧ W.cell? ⟨V, 1, none⟩ = some fv) wq.drew := ⟨(two_cells hVd).1, (two_cells hVd).2⟩
              obtain ⟨i1, hi1, hz10, hz11, hz12⟩ := info_parts infoRowI
              obtain ⟨i2, hi2, hz20, hz21, hz22⟩ := info_parts infoRowS
              have kd : Below wq.heap.size wq wq.drew := (Below.refl _ wq).drew
              refine until_start (S := fun W => W.cell? ⟨V, 0, none⟩ = some uv ∧ W.cell? ⟨V, 1, none⟩ = some fv) (S0 := fun W => W.cell? ⟨Lb, 0, none⟩ = some (.int .i64 uid) ∧ W.cell? ⟨Lb, 1, none⟩ = some (.slice xa fn xc)) (t := 21) (by kernel_rfl) ?_
              generalize wq.drew = wd at *
              refine until_take0 (i := 0) (v := ?v0_2) rfl (by kernel_rfl) (by kernel_rfl) (by kernel_rfl) (by rfl) (fun _ _ _ h => h) (Or.inl ⟨by rfl, ?y0_2⟩) hS0 (fun _ => hS1) ?r0_2
              case y0_2 => (intro W hSw; (try dsimp only at hSw); go_simp; try with_reducible rfl)
              try simp only [Act.put, List.setIfInBounds_toArray, List.set_cons_zero, List.set_cons_succ]
              refine until_take0 (i := 1) (v := ?v1_2) rfl (by kernel_rfl) (by kernel_rfl) (by kernel_rfl) (by rfl) (fun _ _ _ h => h) (Or.inl ⟨by rfl, ?y1_2⟩) hS0 (fun _ => hS1) ?r1_2
              case y1_2 => (intro W hSw; (try dsimp only at hSw); go_simp; try with_reducible rfl)
              try simp only [Act.put, List.setIfInBounds_toArray, List.set_cons_zero, List.set_cons_succ]
              refine until_take0 (i := 2) (v := ?v2_2) rfl (by kernel_rfl) (by kernel_rfl) (by kernel_rfl) (by rfl) (fun _ _ _ h => h) (Or.inl ⟨by rfl, ?y2_2⟩) hS0 (fun _ => hS1) ?r2_2
              case y2_2 => (intro W hSw; (try dsimp only at hSw); go_simp; try with_reducible rfl)
              try simp only [Act.put, List.setIfInBounds_toArray, List.set_cons_zero, List.set_cons_succ]
              refine until_take0 (i := 3) (v := ?v3_2) rfl (by kernel_rfl) (by kernel_rfl) (by kernel_rfl) (by rfl) (fun _ _ _ h => h) (Or.inl ⟨by rfl, ?y3_2⟩) hS0 (fun _ => hS1) ?r3_2
              case y3_2 => (intro W hSw; (try dsimp only at hSw); go_simp; try with_reducible rfl)
              try simp only [Act.put, List.setIfInBounds_toArray, List.set_cons_zero, List.set_cons_succ]
              refine until_take0 (i := 4) (v := ?v4_2) rfl (by kernel_rfl) (by kernel_rfl) (by kernel_rfl) (by rfl) (fun _ _ _ h => h) (Or.inl ⟨by rfl, ?y4_2⟩) hS0 (fun _ => hS1) ?r4_2
              case y4_2 => (intro W hSw; (try dsimp only at hSw); go_simp; try with_reducible rfl)
              try simp only [Act.put, List.setIfInBounds_toArray, List.set_cons_zero, List.set_cons_succ]
              refine until_take (i := 5) (v := ?v5_2) rfl (by kernel_rfl) (by kernel_rfl) (by kernel_rfl) (by kernel_rfl) (fun _ _ _ h => h) (Or.inl ⟨by rfl, ?y5_2⟩) hS0 hS1 ?r5_2
              case y5_2 => (intro W hSw; (try dsimp only at hSw); go_simp; try with_reducible rfl)
              try simp only [Act.put, List.setIfInBounds_toArray, List.set_cons_zero, List.set_cons_succ]
              refine until_take0 (i := 6) (v := ?v6_2) rfl (by kernel_rfl) (by kernel_rfl) (by kernel_rfl) (by rfl) (fun _ _ _ h => h) (Or.inl ⟨by rfl, ?y6_2⟩) hS0 (fun _ => hS1) ?r6_2
              case y6_2 => (intro W hSw; (try dsimp only at hSw); go_simp; try with_reducible rfl)
              try simp only [Act.put, List.setIfInBounds_toArray, List.set_cons_zero, List.set_cons_succ]
              refine until_take0 (i := 7) (v := ?v7_2) rfl (by kernel_rfl) (by kernel_rfl) (by kernel_rfl) (by rfl) (fun _ _ _ h => h) (Or.inl ⟨by rfl, ?y7_2⟩) hS0 (fun _ => hS1) ?r7_2
              case y7_2 => (intro W hSw; (try dsimp only at hSw); go_simp; try with_reducible rfl)
              try simp only [Act.put, List.setIfInBounds_toArray, List.set_cons_zero, List.set_cons_succ]
              refine until_take0 (i := 10) (v := ?v10_2) rfl (by kernel_rfl) (by kernel_rfl) (by kernel_rfl) (by rfl) (fun _ _ _ h => h) (Or.inl ⟨by rfl, ?y10_2⟩) hS0 (fun _ => hS1) ?r10_2
              case y10_2 => (intro W hSw; (try dsimp only at hSw); go_simp; try with_reducible rfl)
              try simp only [Act.put, List.setIfInBounds_toArray, List.set_cons_zero, List.set_cons_succ]
              refine until_take0 (i := 11) (v := ?v11_2) rfl (by kernel_rfl) (by kernel_rfl) (by kernel_rfl) (by rfl) (fun _ _ _ h => h) (Or.inl ⟨by rfl, ?y11_2⟩) hS0 (fun _ => hS1) ?r11_2
              case y11_2 => (intro W hSw; (try dsimp only at hSw); go_simp; try with_reducible rfl)
              try simp only [Act.put, List.setIfInBounds_toArray, List.set_cons_zero, List.set_cons_succ]
              refine until_take0 (i := 12) (v := ?v12_2) rfl (by kernel_rfl) (by kernel_rfl) (by kernel_rfl) (by rfl) (fun _ _ _ h => h) (Or.inl ⟨by rfl, ?y12_2⟩) hS0 (fun _ => hS1) ?r12_2
              case y12_2 => (intro W hSw; (try dsimp only at hSw); go_simp; try with_reducible rfl)
              try simp only [Act.put, List.setIfInBounds_toArray, List.set_cons_zero, List.set_cons_succ]
              refine until_take (i := 13) (v := ?v13_2) rfl (by kernel_rfl) (by kernel_rfl) (by kernel_rfl) (by kernel_rfl) (fun _ _ _ h => h) (Or.inl ⟨by rfl, ?y13_2⟩) hS0 hS1 ?r13_2
              case y13_2 => (intro W hSw; (try dsimp only at hSw); go_simp; try with_reducible rfl)
              try simp only [Act.put, List.setIfInBounds_toArray, List.set_cons_zero, List.set_cons_succ]
              refine until_take0 (i := 14) (v := ?v14_2) rfl (by kernel_rfl) (by kernel_rfl) (by kernel_rfl) (by rfl) (fun _ _ _ h => h) (Or.inl ⟨by rfl, ?y14_2⟩) hS0 (fun _ => hS1) ?r14_2
              case y14_2 => (intro W hSw; (try dsimp only at hSw); go_simp; try with_reducible rfl)
              try simp only [Act.put, List.setIfInBounds_toArray, List.set_cons_zero, List.set_cons_succ]
              refine until_take0 (i := 15) (v := ?v15_2) rfl (by kernel_rfl) (by kernel_rfl) (by kernel_rfl) (by rfl) (fun _ _ _ h => h) (Or.inl ⟨by rfl, ?y15_2⟩) hS0 (fun _ => hS1) ?r15_2
              case y15_2 => (intro W hSw; (try dsimp only at hSw); go_simp; try with_reducible rfl)
              try simp only [Act.put, List.setIfInBounds_toArray, List.set_cons_zero, List.set_cons_succ]
              have xN1 := World.heap_alloc_new wd (.cells #[.int .i64 uid] 3)
              have hN1 : ∀ (j : Nat) (u : Value), [Value.int .i64 uid][j]? = some u → (wd.alloc (.cells #[.int .i64 uid] 3)).cell? ((⟨wd.heap.size, 0, none⟩ : Addr).add j) = some u := World.news_of_block xN1
              have HN1 := Lib.hid hN1
              have hVa := alloc_at (o := .cells #[.int .i64 uid] 3) hVd
              have hLa := alloc_at (o := .cells #[.int .i64 uid] 3) hLd
              have houa := houd.alloc (.cells #[.int .i64 uid] 3)
              have hsa := alloc_size wd (.cells #[.int .i64 uid] 3)
              have hba : N ≤ (wd.alloc (.cells #[.int .i64 uid] 3)).heap.size := by rw [hsa]; omega
              have HSA := Lib.hid hsa
              have HOUA := Lib.hid houa
              have HOUD := Lib.hid houd
              have HOFD := Lib.hid hofd
              have HVD := Lib.hid hVd
              have HLD := Lib.hid hLd
              have HVA := Lib.hid hVa
              have HLA := Lib.hid hLa
              clear hsa houa hofd hVd hLd hVa hLa xN1 hN1 hS0 hS1 houd
              refine until_step (i := 8) (by kernel_rfl) rfl (fun K hK => ?_)
              go_simp
              refine hK.out _ _ ⟨(four_cells HLA.out).1, (four_cells HLA.out).2.1⟩ (fun _ _ => ⟨(two_cells HVA.out).1, (two_cells HVA.out).2⟩) ?_
              clear hK K
              try simp only [Act.put, List.setIfInBounds_toArray, List.set_cons_zero, List.set_cons_succ]
              refine until_step (i := 9) (by kernel_rfl) rfl (fun K hK => ?_)
              refine step_append_lies _ (by rfl) (.tmp 174) (.tmp 177) 46 (by rfl) N 3 i1 _ 1 8 Tryz.underlying46 hi1 hz10 hz11 hz12 (by rfl) (by omega) uv m us9 (by rfl) HOUA.out ⟨wd.heap.size, 0, none⟩ 1 1 [.int .i64 uid] (by rfl) (by rfl) HN1.out (by intro u hu; obtain rfl := List.mem_singleton.1 hu; rfl) (by omega) (by unfold maxLen; omega) (by omega) hba (wd.heap.size + 1) HSA.out ?_
              intro p1 q1 w2 ho1 hg1 hp1 hp1l
              have hV2 := app_keeps HVD.out (by intro c fz h; cases h) HOUD.out hg1
              have hL2 := app_keeps HLD.out (by intro c fz h; cases h) HOUD.out hg1
              have hof2 := owns_app HOFD.out HOUD.out hg1 (by decide)
              have HP1 := Lib.hid hp1
              have kd2 : Kept (fun j => uv.ownBlock = some j) wd w2 := ((Kept.refl _ wd).alloc _).trans ((kept_grown hg1).mono (fun j _ h => h))
              have hg1s := hg1.size
              rw [HSA.out] at hg1s
              have hF2 : Hid (SRow w2 (.slice xa fn xc) f) := hkeep wd w2 kd hFd.out kd2
              have HV2 := Lib.hid hV2; have HL2 := Lib.hid hL2; have HOF2 := Lib.hid hof2; have HO1 := Lib.hid ho1; have HK2 := Lib.hid kd2
              clear hV2 hL2 hof2 ho1 hg1 hp1 kd2 HN1 HOUA HVA HLA hba
              refine hK.out _ _ ⟨(four_cells HL2.out).1, (four_cells HL2.out).2.1⟩ (fun _ _ => ⟨(two_cells HV2.out).1, (two_cells HV2.out).2⟩) ?_
              clear hK K
              try simp only [Act.put, List.setIfInBounds_toArray, List.set_cons_zero, List.set_cons_succ]
              refine until_step (i := 16) (by kernel_rfl) rfl (fun K hK => ?_)
              go_simp
              refine (clone_any _ f w2 hF2.out hfl).mono ?_
              rintro e w3 ⟨r, rfl, hor, h3⟩
              obtain ⟨ra, rc, rfl⟩ := owns_val hor
              have hV3 := below_same h3 HV2.out
              have hL3 := below_same h3 HL2.out
              have hof3 := owns_same HOF2.out (fun j o hj _ => below_same h3 hj)
              have ho3 := owns_same HO1.out (fun j o hj _ => below_same h3 hj)
              have hr3 := srow_owns hor
              have hrs := safe_tag (N := N) (stag_owns hor)
              have HV3 := Lib.hid hV3; have HL3 := Lib.hid hL3; have HOF3 := Lib.hid hof3; have HO3 := Lib.hid ho3; have HR3 := Lib.hid hr3; have HRS := Lib.hid hrs
              clear hV3 hL3 hof3 ho3 hr3 hrs hor HV2 HL2 HOF2 HO1
              go_wp2_with fail
              refine hK.out _ _ ⟨(four_cells HL3.out).1, (four_cells HL3.out).2.1⟩ (fun _ _ => ⟨(two_cells HV3.out).1, (two_cells HV3.out).2⟩) ?_
              clear hK K
              try simp only [Act.put, List.setIfInBounds_toArray, List.set_cons_zero, List.set_cons_succ]
              have hVa := alloc_at (o := .cells #[.slice ra f.length rc] 35) HV3.out
              have hLa := alloc_at (o := .cells #[.slice ra f.length rc] 35) HL3.out
              have hofa := HOF3.out.alloc (.cells #[.slice ra f.length rc] 35)
              have hsa := alloc_size w3 (.cells #[.slice ra f.length rc] 35)
              have h3s := h3.size
              have hba : N ≤ (w3.alloc (.cells #[.slice ra f.length rc] 35)).heap.size := by rw [hsa]; omega
              have hN2 : ∀ (j : Nat) (u : Value), [Value.slice ra f.length rc][j]? = some u → (w3.alloc (.cells #[.slice ra f.length rc] 35)).cell? ((⟨w3.heap.size, 0, none⟩ : Addr).add j) = some u := World.news_of_block (World.heap_alloc_new w3 (.cells #[.slice ra f.length rc] 35))
              have HSA3 := Lib.hid hsa; have HOFA := Lib.hid hofa; have HVA := Lib.hid hVa; have HLA := Lib.hid hLa; have HN2 := Lib.hid hN2
              clear hsa hofa hVa hLa hN2
              refine until_step (i := 17) (by kernel_rfl) rfl (fun K hK => ?_)
              go_simp
              refine hK.out _ _ ⟨(four_cells HLA.out).1, (four_cells HLA.out).2.1⟩ (fun _ _ => ⟨(two_cells HVA.out).1, (two_cells HVA.out).2⟩) ?_
              clear hK K
              try simp only [Act.put, List.setIfInBounds_toArray, List.set_cons_zero, List.set_cons_succ]
              refine until_step (i := 18) (by kernel_rfl) rfl (fun K hK => ?_)
              refine step_append_lies _ (by rfl) (.tmp 182) (.tmp 186) 63 (by rfl) N 35 i2 _ 1 24 Tryz.underlying63 hi2 hz20 hz21 hz22 (by rfl) (by omega) fv m (gs.map encSl) (by rfl) HOFA.out ⟨w3.heap.size, 0, none⟩ 1 1 [.slice ra f.length rc] (by rfl) (by rfl) HN2.out (by intro u hu; obtain rfl := List.mem_singleton.1 hu; rfl) (by omega) (by unfold maxLen; omega) (by omega) hba (w3.heap.size + 1) HSA3.out ?_
              intro p2 q2 w4 ho2 hg2 hp2 hp2l
              have hV4 := app_keeps HV3.out (by intro c fz h; cases h) HOF3.out hg2
              have hL4 := app_keeps HL3.out (by intro c fz h; cases h) HOF3.out hg2
              have ho14 := owns_app HO3.out HOF3.out hg2 (by decide)
              have HP2 := Lib.hid hp2
              have hg2s := hg2.size
              rw [HSA3.out] at hg2s
              have kd4 : Kept (fun j => fv.ownBlock = some j) w3 w4 := ((Kept.refl _ w3).alloc _).trans ((kept_grown hg2).mono (fun j _ h => h))
              have hrs4 : Hid (SRow w4 (.slice ra f.length rc) f ∧ SafeV N w4 (.slice ra f.length rc)) := by
                have hsp : Spares N w3 (fun j => fv.ownBlock = some j) := fun j hj e => ⟨by have := (HOF3.out.lt j e).1; omega, by
                  intro hl
                  rcases HOF3.out.2 with ⟨rfl, _⟩ | ⟨g, cap, cur, rfl, _, hh, _⟩
                  · cases e
                  · cases e; exact not_lettered hh (by decide) (by decide) hl⟩
                exact ⟨HR3.out.kept HRS.out kd4 hsp, HRS.out.kept kd4 hsp⟩
              have k24 : Kept (fun j => fv.ownBlock = some j) w2 w4 := (kept_below h3).trans kd4
              have f0 : w4.frozen? ⟨V, 0, none⟩ = false := Lib.frozen_of_heap hV4 0
              have f1 : w4.frozen? ⟨V, 1, none⟩ = false := Lib.frozen_of_heap hV4 1
              have d0 := (two_cells hV4).1
              have d1 := (two_cells hV4).2
              have hneL : V ≠ Lb := ne_of_obj hV4 hL4 (by intro h; cases h)
              have HV4 := Lib.hid hV4; have HL4 := Lib.hid hL4; have HO14 := Lib.hid ho14; have HO2 := Lib.hid ho2; have HK24 := Lib.hid k24
              clear hV4 hL4 ho14 ho2 hg2 hp2 kd4 k24 HOFA HVA HLA HV3 HL3 HOF3 HO3 HN2
              refine hK.out _ _ ⟨(four_cells HL4.out).1, (four_cells HL4.out).2.1⟩ (fun _ _ => ⟨(two_cells HV4.out).1, (two_cells HV4.out).2⟩) ?_
              clear hK K
              try simp only [Act.put, List.setIfInBounds_toArray, List.set_cons_zero, List.set_cons_succ]
              refine until_step (i := 19) (by kernel_rfl) rfl (fun K hK => ?_)
              go_simp
              refine hK.out _ _ ⟨(four_cells HL4.out).1, (four_cells HL4.out).2.1⟩ (fun _ _ => ⟨(two_cells HV4.out).1, (two_cells HV4.out).2⟩) ?_
              clear hK K
              try simp only [Act.put, List.setIfInBounds_toArray, List.set_cons_zero, List.set_cons_succ]
              refine until_step (i := 20) (by kernel_rfl) rfl (fun K hK => ?_)
              go_simp
              refine hK.out _ _ ⟨(four_cells HL4.out).1, (four_cells HL4.out).2.1⟩ (fun _ _ => ⟨(two_cells HV4.out).1, (two_cells HV4.out).2⟩) ?_
              clear hK K
              try simp only [Act.put, List.setIfInBounds_toArray, List.set_cons_zero, List.set_cons_succ]
              have hL5 := setCell_same (u := .slice (some ⟨p1, 0, none⟩) (m + 1) q1) (a := ⟨V, 0, none⟩) HL4.out (fun h => hneL h.symm)
              have hV5 := set2_0 (u := .slice (some ⟨p1, 0, none⟩) (m + 1) q1) HV4.out
              have HL5 := Lib.hid hL5; have HV5 := Lib.hid hV5
              clear hL5 hV5
              refine until_step (i := 21) (by kernel_rfl) rfl (fun K hK => ?_)
              go_simp
              refine hK.out _ _ ⟨(four_cells HL5.out).1, (four_cells HL5.out).2.1⟩ (fun h _ => absurd rfl h) ?_
              clear hK K
              try simp only [Act.put, List.setIfInBounds_toArray, List.set_cons_zero, List.set_cons_succ]
              refine until_step (i := 22) (by kernel_rfl) rfl (fun K hK => ?_)
              go_simp
              refine hK.out _ _ ⟨(four_cells HL5.out).1, (four_cells HL5.out).2.1⟩ (fun _ h => absurd h (by decide)) ?_
              clear hK K
              try simp only [Act.put, List.setIfInBounds_toArray, List.set_cons_zero, List.set_cons_succ]
              refine until_step (i := 23) (by kernel_rfl) rfl (fun K hK => ?_)
              go_simp
              refine hK.out _ _ ⟨(four_cells HL5.out).1, (four_cells HL5.out).2.1⟩ (fun _ h => absurd h (by decide)) ?_
              clear hK K
              try simp only [Act.put, List.setIfInBounds_toArray, List.set_cons_zero, List.set_cons_succ]
              have hL6 := setCell_same (u := .slice (some ⟨p2, 0, none⟩) (m + 1) q2) (a := ⟨V, 1, none⟩) HL5.out (fun h => hneL h.symm)
              have HL6 := Lib.hid hL6
              clear hL6
              refine until_step (i := 24) (by kernel_rfl) rfl (fun K hK => ?_)
              go_simp
              refine hK.out _ _ ⟨(four_cells HL6.out).1, (four_cells HL6.out).2.1⟩ (fun _ h => absurd h (by decide)) ?_
              clear hK K
              try simp only [Act.put, List.setIfInBounds_toArray, List.set_cons_zero, List.set_cons_succ]
              refine until_done (by kernel_rfl) ?_ _

              obtain ⟨hLb, huid, hfn, hf, hus, hm⟩ := HEQ.out
              have kset : Kept (fun j => j = V) w4 ((w4.setCell ⟨V, 0, none⟩ (.slice (some ⟨p1, 0, none⟩) (m + 1) q1)).setCell ⟨V, 1, none⟩ (.slice (some ⟨p2, 0, none⟩) (m + 1) q2)) := Kept.setB (Kept.setB (Kept.refl _ w4) _) _
              have hKall : Kept (fun j => j = V ∨ uv.ownBlock = some j ∨ fv.ownBlock = some j) wq ((w4.setCell ⟨V, 0, none⟩ (.slice (some ⟨p1, 0, none⟩) (m + 1) q1)).setCell ⟨V, 1, none⟩ (.slice (some ⟨p2, 0, none⟩) (m + 1) q2)) :=
                (((kept_below kd).trans (HK2.out.mono (fun _ _ h => Or.inr (Or.inl h)))).trans (HK24.out.mono (fun _ _ h => Or.inr (Or.inr h)))).trans (kset.mono (fun _ _ h => Or.inl h))
              have hsp4 : Spares N w4 (fun j => j = V) := spares_at HV4.out hN (by decide) (by decide)
              have hspq : Spares N wq (fun j => j = V ∨ uv.ownBlock = some j ∨ fv.ownBlock = some j) := spares_view HLQ.out.s.hV hN HLQ.out.s.hu HLQ.out.s.hf
              have ho6 := owns_setAny (u := .slice (some ⟨p2, 0, none⟩) (m + 1) q2) (i := 1) (owns_setAny (u := .slice (some ⟨p1, 0, none⟩) (m + 1) q1) (i := 0) HO14.out HV4.out (by decide)) HV5.out (by decide)
              have hf6 := owns_setAny (u := .slice (some ⟨p2, 0, none⟩) (m + 1) q2) (i := 1) (owns_setAny (u := .slice (some ⟨p1, 0, none⟩) (m + 1) q1) (i := 0) HO2.out HV4.out (by decide)) HV5.out (by decide)
              have hr6 := hrs4.out.1.kept hrs4.out.2 kset hsp4
              have hs6 := hrs4.out.2.kept kset hsp4
              have hRn := (HLQ.out.s.hr.kept hKall hspq).snoc HLQ.out.s.hl (g := (ra, f.length, rc)) (f := f) hr6 hs6
              have hgl6 : gs.length = m := by rw [HLQ.out.s.hl, List.length_map]; exact hm
              have kds := kd.size
              have hLG := HLQ.out.grow hN hNw (uv' := .slice (some ⟨p1, 0, none⟩) (m + 1) q1) (fv' := .slice (some ⟨p2, 0, none⟩) (m + 1) q2) (ui' := (T ++ [(uid, f)]).map (·.1)) (fls' := (T ++ [(uid, f)]).map (·.2)) (gs' := gs ++ [(ra, f.length, rc)]) hKall (set2_1 HV5.out)
                (by have e : ((T ++ [(uid, f)]).map (·.1)).map (Value.int .i64) = us9 ++ [.int .i64 uid] := by rw [List.map_append, List.map_append, hus]; rfl
                    rw [e]; exact owns_n ho6 (by rw [List.length_map, List.length_append]; simp; omega))
                (by have e : (gs ++ [(ra, f.length, rc)]).map encSl = gs.map encSl ++ [.slice ra f.length rc] := by rw [List.map_append]; rfl
                    rw [e]; exact owns_n hf6 (by rw [List.length_append]; simp; omega))
                (by rw [List.length_append, List.length_map, List.length_append, hgl6, hm]; rfl)
                (by rw [List.map_append]; exact hRn)
                (own_fresh HP1.out (by omega)) (own_fresh HP2.out (by omega))
              have HLG := Lib.hid hLG
              clear hLb huid hfn hf hus hm kset hKall hspq hsp4 hr6 hs6 hrs4 hRn ho6 hf6 hLG hgl6 kds
              go_wp2_with fail
              go_roundg g'
              case measure => omega
              case rel =>
                refine ⟨k + 1, .slice (some ⟨p1, 0, none⟩) (m + 1) q1, .slice (some ⟨p2, 0, none⟩) (m + 1) q2, gs ++ [(ra, f.length, rc)], T ++ [(uid, f)], by omega, by go_num, HLG.out, by rw [List.length_append]; simp; omega, ?_⟩
                show _ = _
                rw [HSTEP.out]; exact HNEW.out
            · have hg : decide (u.1 < uid) = false := decide_eq_false hgt
              have HNEW : Hid (addF T ⟨uid, f, dy, tx⟩ = T) := by
                show _ = _
                unfold addF newB
                rw [hlast2]
                simp [hg]
              clear hT hlast2
              go_quiet (fail)
              go_wp2_with fail
              go_roundg g'
              case measure => omega
              case rel =>
                refine ⟨k + 1, _, fv, gs, T, by omega, by go_num, HLL.out.below (below_drewN _ _), by omega, ?_⟩
                show _ = _
                rw [HSTEP.out]; exact HNEW.out
        · obtain rfl : k = zs.length := by omega
          have hTT : T = seeF b.ls us2 := by
            have := HT.out
            rw [List.take_of_length_le (by rw [← HZ.out, List.length_map]; exact Nat.le_refl _)] at this
            exact this.symm
          have hws : w.heap.size ≤ wr.heap.size := hL.s.hk.size
          have hNs := hL.r.1
          have dV := (two_cells hL.s.hV).1
          have hcl2 : cs.length ≤ 100000 := by omega
          have hvl2 : vs.length ≤ 100000 := by omega
          have hlook : lookF b.ls us gone = (G1 ++ (if us1.length < T.length then [⟨2, (T.length : Nat), []⟩] else []) ++ CH, T) := by
            simp only [lookF, HU1.out, HG1.out, HUS2.out, HCHH.out, ← hTT]
          have HLOOK := Lib.hid hlook
          have HLL := Lib.hid hL
          clear hL hTT hNs hlook hm
          by_cases hmany : us1.length < m
          · have hmz : (us1.length : Int) < (m : Int) := by omega
            have HMANY := Lib.hid hmany
            go_wp2_with (at_builtin; go_must (refine wpList_append_lies _ rfl (.tmp 200) (.tmp 207) 79 rfl w.heap.size 103 i3 _ 3 40 Tryz.underlying79 hi3 hz30 hz31 hz32 rfl (by omega) ov vs.length (cellsN vs) rfl (HLL.out.o.alloc _) ⟨wr.heap.size, 0, none⟩ 1 1 [.int .i64 2, .int .i64 (m : Int), .slice none 0 0] rfl rfl (World.news_of_block (World.heap_alloc_new wr (.cells #[.int .i64 2, .int .i64 (m : Int), .slice none 0 0] 103))) (by intro u hu; simp only [List.mem_cons, List.not_mem_nil, or_false] at hu; rcases hu with rfl | rfl | rfl <;> rfl) (by omega) (by unfold maxLen; omega) (by omega) (by rw [alloc_size]; omega) (wr.heap.size + 1) (alloc_size _ _) ?_))
            intro p7 q7 w7 o7 g7 hp7 _
            have L7 := HLL.out.tellO hNw (x := (2, (m : Int), (none, 0, 0))) (f := []) (SRow.nil _) (safe_nil _ _) o7 g7 hp7
            have HL7 := Lib.hid L7
            have hw7 : w.heap.size ≤ w7.heap.size := L7.s.hk.size
            clear L7 o7 g7 hp7
            rcases List.eq_nil_or_concat cs with hcs | ⟨cs', c0, hcs⟩
            · have hcv := hnilc.out hcs
              subst hcs
              subst hcv
              have HNO := HL7
              go_wp2_with (at_builtin; go_must (refine wpList_append_own_none rfl _ _ 79 rfl w.heap.size 103 i3 3 Tryz.underlying79 hi3 (.slice (some ⟨p7, 0, none⟩) (vs.length + 1) q7) (vs.length + 1) (cellsN (vs ++ [((2 : Int), (m : Int), ((none, 0, 0) : Option Addr × Nat × Nat))])) rfl (owns_n HL7.out.o (List.length_append ..)) rfl ?_))
              go_wp2_with fail
              go_ret
              have hf := HL7.out.fin hNw (v' := (.slice (some ⟨p7, 0, none⟩) (vs.length + 1) q7)) (World.grownBy.refl _ _) (by simpa [cellsN] using HL7.out.o)
              obtain ⟨r1, r2, r3, r4, r5, r6⟩ := hf
              refine ⟨_, _, _, _, rfl, r1, ?_, ?_, r4, r5, r6⟩
              · rw [HLOOK.out, HM.out]; simpa [HMANY.out] using r2
              · rw [HLOOK.out]; exact r3
            · rw [List.concat_eq_append] at hcs
              have hpos : 0 < cs.length := by rw [hcs, List.length_append]; simp
              obtain ⟨pc, qc, rfl⟩ := own_some HL7.out.c hpos
              have HCC : Hid (∀ j u, (cellsN cs)[j]? = some u → w7.cell? ((⟨pc, 0, none⟩ : Addr).add j) = some u) := fun j u hj => by
                have hlt : j < cs.length * 3 := by
                  have := (List.getElem?_eq_some_iff.1 hj).1
                  rwa [cellsN_len] at this
                rw [add_pl, Nat.zero_add, HL7.out.c.cellAt j hlt]
                exact hj
              have HCL := Lib.hid (cellsN_len cs)
              clear hcs
              go_wp2_with (at_builtin; go_must (refine wpList_append_own _ rfl _ _ 79 rfl w.heap.size 103 i3 _ 3 40 Tryz.underlying79 hi3 hz30 hz31 hz32 rfl (by decide) (.slice (some ⟨p7, 0, none⟩) (vs.length + 1) q7) (vs.length + 1) (cellsN (vs ++ [((2 : Int), (m : Int), ((none, 0, 0) : Option Addr × Nat × Nat))])) rfl (owns_n HL7.out.o (List.length_append ..)) ⟨pc, 0, none⟩ cs.length qc (cellsN cs) rfl HCL.out HCC.out (cellsN_one cs) (by unfold maxLen; omega) (by omega) (by omega) ?_))
              intro v' w9 o9 g9 _
              go_wp2_with fail
              go_ret
              have hf := HL7.out.fin hNw g9 (owns_n o9 (by simp))
              obtain ⟨r1, r2, r3, r4, r5, r6⟩ := hf
              refine ⟨_, _, _, _, rfl, r1, ?_, ?_, r4, r5, r6⟩
              · rw [HLOOK.out, HM.out]; simpa [HMANY.out] using r2
              · rw [HLOOK.out]; exact r3
          · have hmz : ¬ ((us1.length : Int) < (m : Int)) := by omega
            have HMANY := Lib.hid hmany
            rcases List.eq_nil_or_concat cs with hcs | ⟨cs', c0, hcs⟩
            · have hcv := hnilc.out hcs
              subst hcs
              subst hcv
              have HNO := HLL
              go_wp2_with (at_builtin; go_must (refine wpList_append_own_none rfl _ _ 79 rfl w.heap.size 103 i3 3 Tryz.underlying79 hi3 ov vs.length (cellsN vs) rfl HLL.out.o rfl ?_))
              go_wp2_with fail
              go_ret
              have hf := HLL.out.fin hNw (v' := ov) (World.grownBy.refl _ _) (by simpa [cellsN] using HLL.out.o)
              obtain ⟨r1, r2, r3, r4, r5, r6⟩ := hf
              refine ⟨_, _, _, _, rfl, r1, ?_, ?_, r4, r5, r6⟩
              · rw [HLOOK.out, HM.out]; simpa [HMANY.out] using r2
              · rw [HLOOK.out]; exact r3
            · rw [List.concat_eq_append] at hcs
              have hpos : 0 < cs.length := by rw [hcs, List.length_append]; simp
              obtain ⟨pc, qc, rfl⟩ := own_some HLL.out.c hpos
              have HCC : Hid (∀ j u, (cellsN cs)[j]? = some u → wr.cell? ((⟨pc, 0, none⟩ : Addr).add j) = some u) := fun j u hj => by
                have hlt : j < cs.length * 3 := by
                  have := (List.getElem?_eq_some_iff.1 hj).1
                  rwa [cellsN_len] at this
                rw [add_pl, Nat.zero_add, HLL.out.c.cellAt j hlt]
                exact hj
              have HCL := Lib.hid (cellsN_len cs)
              clear hcs
              go_wp2_with (at_builtin; go_must (refine wpList_append_own _ rfl _ _ 79 rfl w.heap.size 103 i3 _ 3 40 Tryz.underlying79 hi3 hz30 hz31 hz32 rfl (by decide) ov vs.length (cellsN vs) rfl HLL.out.o ⟨pc, 0, none⟩ cs.length qc (cellsN cs) rfl HCL.out HCC.out (cellsN_one cs) (by unfold maxLen; omega) (by omega) (by omega) ?_))
              intro v' w9 o9 g9 _
              go_wp2_with fail
              go_ret
              have hf := HLL.out.fin hNw g9 (owns_n o9 (by simp))
              obtain ⟨r1, r2, r3, r4, r5, r6⟩ := hf
              refine ⟨_, _, _, _, rfl, r1, ?_, ?_, r4, r5, r6⟩
              · rw [HLOOK.out, HM.out]; simpa [HMANY.out] using r2
              · rw [HLOOK.out]; exact r3
end Go.Proofs.YteclajckkjocnaaGreatDoor
