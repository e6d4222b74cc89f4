/- The walk over the statement BoxNumbers. Condition: flags.system lies as the program's text lays it. -/
import Derived.Test.YtnohhndnbkplgaaDoorBoxM
import Derived.Test.YtnohhndnbkplgaaDoorPNum
namespace Go.Proofs.YtnohhndnbkplgaaDoor
open Go.RowKit Go.Shelf Go.Sort Go.Maps

theorem lawI : Keyed Tryd.prog 3 := int_keyed Tryd.underlying3
theorem zero_str (w : World) : (zeroValue 9).run Tryd.prog w = .ok (.string ⟨#[]⟩) w := by kernel_rfl
theorem key_ofI {x : Int} (h : (Lit.int .i64 x).wf = true) : keyOf Tryd.prog 3 (.int .i64 x) = some (.int .i64 x) := keyOf_int_mk Tryd.underlying3 h
abbrev OM (w : World) (M n : Nat) (D : DataW Unit) : Prop := w.ownsMap Tryd.prog 3 (plainElem Tryd.prog 9) M n D
theorem om_obj {w : World} {M n : Nat} {D : DataW Unit} (h : OM w M n D) : ∃ es c, w.heap[M]? = some (.map es c) := by
  obtain ⟨es, c, hb, _⟩ := h
  exact ⟨es, c, hb⟩
theorem om_kept {w w' : World} {M n : Nat} {D : DataW Unit} {S : Nat → Prop} (h : OM w M n D) (hk : Kept S w w') (hM : ¬ S M) : OM w' M n D := by
  obtain ⟨es, c, hb, r⟩ := h
  exact ⟨es, c, hk.obj hb hM, r⟩
theorem om_below {w w' : World} {M n : Nat} {D : DataW Unit} (h : OM w M n D) (hk : Below w.heap.size w w') : OM w' M n D := om_kept (S := fun _ => False) h (kept_below hk) id
theorem spares_map {N : Nat} {w : World} {M n : Nat} {D : DataW Unit} (h : OM w M n D) (hN : N ≤ M) : Spares N w (fun k => some M = some k) := fun k _ e => by
  obtain ⟨es, c, hb⟩ := om_obj h
  injection e with e
  subst e
  refine ⟨hN, fun ⟨cur, T, fz, hh, _⟩ => ?_⟩
  rw [hb] at hh; cases hh

set_option maxRecDepth 100000 in
set_option maxHeartbeats 16000000 in
theorem numbers_any (next : Int) (v : Value) (l : List Pst) (w : World) (hv : PRow w v l) (ht : ∀ x ∈ l, (∀ t ∈ x.flags, t.length ≤ 9223372036854775807) ∧ x.text.length ≤ 9223372036854775807) (hi : ∀ x ∈ l, -9223372036854775808 ≤ x.uid ∧ x.uid ≤ 9223372036854775807 ∧ -9223372036854775808 ≤ x.n ∧ x.n ≤ 9223372036854775807) (hG : FlagG w)
    (hn0 : -9223372036854775808 ≤ next) (hn1 : next ≤ 9223372036854775807) :
    Calls Tryd.prog 3 #[.int .i64 next, v] w fun e w' => e = .returned (.bool true) ∧ Below w.heap.size w w' := by
  have cSh := short_any v l w hv ht
  have hgl := flagG_lt hG
  obtain ⟨ao, cap, rfl, hcap, ⟨hcm, hnone⟩, hcell⟩ := hv
  cases hsh : shortF l with
  | false =>
    rw [hsh] at cSh
    clear hcell hsh
    go_enter Tryd.func3, Tryd.ntmps3
    go_wp2_with (go_at_call 4; (with_reducible refine cSh.mono ?_); rintro e w2 ⟨rfl, h⟩)
    go_ret
    exact ⟨rfl, h⟩
  | true =>
    rw [hsh] at cSh
    have hl40 : l.length ≤ 40 := by
      unfold shortF at hsh
      simp only [Bool.and_eq_true, decide_eq_true_eq] at hsh
      exact hsh.1
    have hps : ∀ x ∈ l, textsF x.flags = true ∧ x.text.length ≤ 300 := fun x hx => by
      unfold shortF at hsh
      simp only [Bool.and_eq_true, decide_eq_true_eq, List.all_eq_true] at hsh
      have := hsh.2 x hx
      unfold pstF at this
      simp only [Bool.and_eq_true, decide_eq_true_eq] at this
      exact this
    have cB := fun W (h : Below w.heap.size w W) => boxed_any W (hG.below h)
    have cP : ∀ W, Calls Tryd.prog 6 #[.int .i64 next, .int .i64 1000] W fun e w' => e = .returned (.int .i64 (pickF next 1000 : Int)) ∧ W = w' := fun W => pick_any next 1000 W (by decide) (by decide) hn0 hn1
    have hpl := pick_lt next (show 0 < 1000 by decide)
    obtain ⟨p, hp⟩ : ∃ p, pickF next 1000 = p := ⟨_, rfl⟩
    rw [hp] at cP hpl
    have hmm := @run_makeMap Tryd.prog
    have HC := Lib.hid hcell
    have HI := Lib.hid hi
    have HP := Lib.hid hps
    clear hcell hsh hi hps hp ht hcap hnone
    go_enter Tryd.func3, Tryd.ntmps3
    go_wp2_with (first
      | (go_at_call 4; (with_reducible refine cSh.mono ?_); rintro e w2 ⟨rfl, h⟩)
      | (go_at_call 5; (with_reducible refine (cB _ h).mono ?_); rintro e w3 ⟨rfl, h3⟩; have y3 := h.trans (h3.mono h.size))
      | (go_at_call 6; with_reducible refine (cP _).mono ?_; rintro e w4 ⟨rfl, hw⟩; subst hw))
    obtain ⟨B, hB⟩ : ∃ B, w3.heap.size = B := ⟨_, rfl⟩
    have hx0 := World.heap_alloc_new w3 (.cells #[.int .i64 1, .int .i64 (1 + (p : Int)), .slice none 0 0] 28)
    have hs0 := alloc_size w3 (.cells #[.int .i64 1, .int .i64 (1 + (p : Int)), .slice none 0 0] 28)
    have hNw : w.heap.size ≤ B := by rw [← hB]; exact y3.size
    have hW0 : Below w.heap.size w ((w3.alloc (.cells #[.int .i64 1, .int .i64 (1 + (p : Int)), .slice none 0 0] 28)).alloc (.map #[] 0)) := (y3.alloc y3.size _).alloc (by rw [hs0]; omega) _
    have hb0 : BoxS w.heap.size ((w3.alloc (.cells #[.int .i64 1, .int .i64 (1 + (p : Int)), .slice none 0 0] 28)).alloc (.map #[] 0)) B ⟨1, 1 + (p : Int), []⟩ := by
      rw [hB] at hx0
      exact ⟨.slice none 0 0, [], alloc_at hx0, rfl, ⟨⟨none, 0, rfl, Nat.le_refl _, ⟨by decide, fun _ => rfl⟩, (fun z hz => by cases hz), fun j u h => by simp [cellsL] at h⟩, safe_nil _ _, (fun z hz => by cases hz)⟩⟩
    have hm0 : OM ((w3.alloc (.cells #[.int .i64 1, .int .i64 (1 + (p : Int)), .slice none 0 0] 28)).alloc (.map #[] 0)) (B + 1) 0 (.map []) := by
      have := World.ownsMap_made (w3.alloc (.cells #[.int .i64 1, .int .i64 (1 + (p : Int)), .slice none 0 0] 28)) Tryd.prog 3 (plainElem (H := Unit) Tryd.prog 9)
      rw [hs0, hB] at this
      exact this
    have hr0 : rightB ⟨1, 1 + (p : Int), []⟩ = true := by
      show (true && (decide ((1 : Int) ≤ 1) && decide ((1 : Int) ≤ 2147483647)) && (decide (1 ≤ 1 + (p : Int)) && decide (1 + (p : Int) ≤ 2147483647)) && decide (0 ≤ 60)) = true
      rw [decide_eq_true (show 1 ≤ 1 + (p : Int) by omega), decide_eq_true (show 1 + (p : Int) ≤ 2147483647 by omega)]
      rfl
    rw [hB]
    obtain ⟨W0, hW0e⟩ : ∃ W0, (w3.alloc (.cells #[.int .i64 1, .int .i64 (1 + (p : Int)), .slice none 0 0] 28)).alloc (.map #[] 0) = W0 := ⟨_, rfl⟩
    rw [hW0e] at hW0 hb0 hm0 ⊢
    clear hW0e hx0 hs0 hB cSh cB cP h3 h y3
    go_loopg [7] l.length (fun g s7 wr => ∃ (k n : Nat) (b : BoxP) (D : DataW Unit) (f : Nt), k + g = l.length ∧ s7 = .int .i64 (k : Int) ∧ BoxS w.heap.size wr B b ∧ rightB b = true ∧ OM wr (B + 1) n D ∧ n ≤ 60 * k ∧ Hid (DS D f) ∧ Hid (NoteI b f) ∧ Below w.heap.size w wr)
    case atStart => exact ⟨0, 0, _, _, fun _ => none, by omega, rfl, hb0, hr0, hm0, by omega, DS.empty, note_nil _ _, hW0⟩
    case round =>
      obtain ⟨k, n, b, D, f, hk, rfl, hb, hr, hm, hn, HD, HNI, hbr⟩ := hrel
      clear hb0 hr0 hm0 hW0
      by_cases hlt : k < l.length
      · obtain ⟨g', rfl⟩ : ∃ g', gk = g' + 1 := ⟨gk - 1, by omega⟩
        obtain ⟨x, hx⟩ : ∃ x, l[k]? = some x := ⟨l[k], List.getElem?_eq_getElem hlt⟩
        obtain ⟨pa, off, fv, rfl, hpa, hS, c0, c1, c2, c3, c4⟩ := HC.out k x hx
        have hxm := List.mem_of_getElem? hx
        obtain ⟨hi0, hi1, hi2, hi3⟩ := HI.out x hxm
        obtain ⟨hp1, hp2⟩ := HP.out x hxm
        have hkz : (k : Int) < (l.length : Int) := by omega
        have hshort := (texts_short hp1).1
        have hG1 := hG.below hbr
        have hS1 := hS.below hbr
        have e0 := (hbr.cell (p := ⟨pa, off + k * 5, none⟩) hpa).trans c0
        have e1 := (hbr.cell (p := ⟨pa, off + k * 5 + 1, none⟩) hpa).trans c1
        have e2 := (hbr.cell (p := ⟨pa, off + k * 5 + 2, none⟩) hpa).trans c2
        have e3 := (hbr.cell (p := ⟨pa, off + k * 5 + 3, none⟩) hpa).trans c3
        have e4 := (hbr.cell (p := ⟨pa, off + k * 5 + 4, none⟩) hpa).trans c4
        have cPo := fun W (hW : Below wr.heap.size wr W) => post_any w.heap.size B b x fv W (hb.below hW) hNw hr (hS1.below hW) hshort (by omega) (hG1.below hW) hgl hi0 hi1 hi2 hi3
        have hst := post_stays b x (pickF x.n 100) (pickF x.n 3)
        have hr' := right_post hr x (pickF x.n 100) (pickF x.n 3)
        obtain ⟨R, hR⟩ : ∃ R, postB b x (pickF x.n 100) (pickF x.n 3) = R := ⟨_, rfl⟩
        rw [hR] at cPo hst hr'
        obtain ⟨o, b'⟩ := R
        obtain ⟨hno, hst⟩ := hst
        simp only at cPo hno hst hr'
        have hle := right_len hr'
        have hBl : B < wr.heap.size := by
          obtain ⟨lv, hB, _⟩ := hb.at
          exact (Array.getElem?_eq_some_iff.1 hB).1
        obtain ⟨lv, zs, hBc, hzs, hxr⟩ := hb
        obtain ⟨la, lc, hlv, _⟩ := hxr.1
        subst hlv
        obtain ⟨d0, d1, d2⟩ := three_cells hBc
        obtain ⟨fa, fn, fc, hfv⟩ : ∃ a n c, fv = .slice a n c := by
          obtain ⟨a, c, h, _⟩ := hS
          exact ⟨_, _, _, h⟩
        subst hfv
        have hNB := HNI.out.2
        have hnn : ¬ (b'.next < b.next) := by rcases hst.next with e | e <;> omega
        have hbn : b.next ≤ 2147483647 ∧ 1 ≤ b.next := by
          unfold rightB numB maxN at hr
          simp only [Bool.and_eq_true, decide_eq_true_eq] at hr
          omega
        have HST := Lib.hid hst; have HNO := Lib.hid hno
        have HZS := Lib.hid hzs; have HXR := Lib.hid hxr; have HBC := Lib.hid hBc; have HM := Lib.hid hm
        have hzl : zs.length = b.ls.length := by rw [← hzs, List.length_map]
        have HZL := Lib.hid hzl
        clear hx hS c0 c1 c2 c3 c4 hR hst hno hzs hxr hBc hm hNB hzl hS1
        go_wp2_with fail
        go_quiet (fail)
        have hq : Below wr.heap.size wr (wr.drewN nq) := below_drewN wr nq
        have e0 := (hq.cell (p := ⟨pa, off + k * 5, none⟩) (Nat.lt_of_lt_of_le hpa hbr.size)).trans e0
        have e1 := (hq.cell (p := ⟨pa, off + k * 5 + 1, none⟩) (Nat.lt_of_lt_of_le hpa hbr.size)).trans e1
        have e2 := (hq.cell (p := ⟨pa, off + k * 5 + 2, none⟩) (Nat.lt_of_lt_of_le hpa hbr.size)).trans e2
        have e3 := (hq.cell (p := ⟨pa, off + k * 5 + 3, none⟩) (Nat.lt_of_lt_of_le hpa hbr.size)).trans e3
        have e4 := (hq.cell (p := ⟨pa, off + k * 5 + 4, none⟩) (Nat.lt_of_lt_of_le hpa hbr.size)).trans e4
        have hmq := om_below HM.out hq
        have cPo2 := cPo _ hq
        have hbq := hbr.trans (hq.mono hbr.size)
        have hsq : (wr.drewN nq).heap.size = wr.heap.size := rfl
        generalize wr.drewN nq = wq at *
        clear d0 d1 d2 cPo
        have HMQ := Lib.hid hmq
        clear hmq
        have hpaq : pa < wq.heap.size := by rw [hsq]; exact Nat.lt_of_lt_of_le hpa hbr.size
        have HSQ := Lib.hid hsq
        clear hsq
        go_upto_region 12 with (go_at_call 7; go_loud ((with_reducible refine cPo2.mono ?_); rintro e wp hpost; obtain ⟨he, hb', hkp⟩ := hpost.out; subst he))
        clear e1 e2 e3 e4 cPo2 hpost
        have hMl := om_obj HMQ.out
        have hMB : ¬ ((fun j => j = B) (B + 1)) := by show ¬ (B + 1 = B); omega
        have hmp := om_kept HMQ.out hkp hMB
        have hbp : Below w.heap.size w wp := hbq.trans (hkp.below (Nat.le_trans (Nat.le_trans hNw (Nat.le_of_lt hBl)) (by rw [HSQ.out]; exact Nat.le_refl _)) (fun j e => by rw [e]; exact hNw))
        have hBw : B < w.heap.size ∨ w.heap.size ≤ B := Or.inr hNw
        have e0 : wp.cell? ⟨pa, off + k * 5, none⟩ = some (.int .i64 x.what) := (hkp.below (N := w.heap.size) (Nat.le_trans (Nat.le_trans hNw (Nat.le_of_lt hBl)) (by rw [HSQ.out]; exact Nat.le_refl _)) (fun j e => by rw [e]; exact hNw)).cell hpa |>.trans e0
        have hG2 := hG.below hbp
        have HBP := Lib.hid hb'
        obtain ⟨lv', zs', hBc', hzs', hxr'⟩ := hb'
        have cR := right_any b' lv' wp (hzs' ▸ lrow_of hxr'.1) hr' hG2
        obtain ⟨la', lc', hlv', _⟩ := hxr'.1
        subst hlv'
        obtain ⟨d0, d1, d2⟩ := three_cells hBc'
        have hzl' : zs'.length = b'.ls.length := by rw [← hzs', List.length_map]
        have hBlp : B < wp.heap.size := (Array.getElem?_eq_some_iff.1 hBc').1
        have hpap : pa < wp.heap.size := Nat.lt_of_lt_of_le hpa hbp.size
        have HZL' := Lib.hid hzl'
        have HMP := Lib.hid hmp
        clear hxr' hzs' hBc' hmp hkp hMl hMB hzl' hBw
        go_cut [87] (fun s87 wx => s87 = .bool false ∧ Hid (BoxS w.heap.size wx B b') ∧ Hid (OM wx (B + 1) n D) ∧ Hid (Below w.heap.size w wx))
        case first =>
          cases o with
          | some m =>
            obtain rfl : b' = b := HNO.out.resolve_left (by simp)
            have hE : errV (some m) = .iface 63 (.int .i64 (m : Int)) := rfl
            have hzz : ((zs'.length : Int) != (zs.length : Int)) = false := by
              have h1 := HZL'.out
              have h2 := HZL.out
              rw [h1, h2]
              simp
            go_wp2_with (go_at_call 8; go_loud ((with_reducible refine cR.mono ?_); rintro e w5 ⟨rfl, h5⟩; have d0 := (h5.cell (p := ⟨B, 0, none⟩) hBlp).trans d0; have d1 := (h5.cell (p := ⟨B, 1, none⟩) hBlp).trans d1; have d2 := (h5.cell (p := ⟨B, 2, none⟩) hBlp).trans d2; have e0 := (h5.cell (p := ⟨pa, off + k * 5, none⟩) hpap).trans e0))
            go_meet
            exact ⟨rfl, HBP.out.below h5, om_below HMP.out h5, hbp.trans (h5.mono hbp.size)⟩
          | none =>
            have hd : decide (b'.next < b.next) = false := decide_eq_false (by omega)
            have hE : errV none = .nilIface := rfl
            by_cases h0 : x.what = 0
            · have hnx : b'.next = b.next + 1 := HST.out.made ⟨rfl, h0⟩
              rw [h0] at e0
              rw [hnx] at d1 cR hnn
              clear hd hnx
              have hd2 : decide (b.next + 1 < b.next) = false := decide_eq_false (by omega)
              go_wp2_with (go_at_call 8; go_loud ((with_reducible refine cR.mono ?_); rintro e w5 ⟨rfl, h5⟩; have d0 := (h5.cell (p := ⟨B, 0, none⟩) hBlp).trans d0; have d1 := (h5.cell (p := ⟨B, 1, none⟩) hBlp).trans d1; have d2 := (h5.cell (p := ⟨B, 2, none⟩) hBlp).trans d2; have e0 := (h5.cell (p := ⟨pa, off + k * 5, none⟩) hpap).trans e0))
              go_meet
              exact ⟨rfl, HBP.out.below h5, om_below HMP.out h5, hbp.trans (h5.mono hbp.size)⟩
            · have hw0 : (x.what == 0) = false := beq_eq_false_iff_ne.2 h0
              go_wp2_with (go_at_call 8; go_loud ((with_reducible refine cR.mono ?_); rintro e w5 ⟨rfl, h5⟩; have d0 := (h5.cell (p := ⟨B, 0, none⟩) hBlp).trans d0; have d1 := (h5.cell (p := ⟨B, 1, none⟩) hBlp).trans d1; have d2 := (h5.cell (p := ⟨B, 2, none⟩) hBlp).trans d2; have e0 := (h5.cell (p := ⟨pa, off + k * 5, none⟩) hpap).trans e0))
              go_meet
              exact ⟨rfl, HBP.out.below h5, om_below HMP.out h5, hbp.trans (h5.mono hbp.size)⟩
        case rest =>
          obtain ⟨rfl, hb', hm', hb2⟩ := hcut
          have HM0 := hm'.out
          obtain ⟨lv0, zs0, hBc0, hzs0, hxr0⟩ := hb'.out
          obtain ⟨la0, lc0, hlv0, _⟩ := hxr0.1
          subst hlv0
          clear hBc0 hzs0 hxr0 d0 d1 d2 e0 cR
          go_wp2_with fail
          go_loopg [11] b'.ls.length (fun g s11 wr => ∃ (j n2 : Nat) (D2 : DataW Unit), j + g = b'.ls.length ∧ s11 = .int .i64 (j : Int) ∧ Hid (BoxS w.heap.size wr B b') ∧ OM wr (B + 1) n2 D2 ∧ n2 ≤ n + j ∧ Hid (DS D2 (updL f (b'.ls.take j))) ∧ Hid (Below w.heap.size w wr))
          case atStart => exact ⟨0, n, D, by omega, rfl, hb'.out, HM0, by omega, HD.out, hb2.out⟩
          case round =>
            obtain ⟨j, n2, D2, hj, rfl, hbj, hmj, hn2, HDJ, hbrj⟩ := hrel
            clear HM0
            obtain ⟨lv2, zs2, hBc2, hzs2, hxr2⟩ := hbj.out
            obtain ⟨la2, lc2, hlv2, _⟩ := hxr2.1
            subst hlv2
            have d2 := (three_cells hBc2).2.2
            have hzl2 : zs2.length = b'.ls.length := by rw [← hzs2, List.length_map]
            rw [hzl2] at d2
            have hMl := om_obj hmj
            by_cases hltj : j < b'.ls.length
            · obtain ⟨z, hzj⟩ : ∃ z, zs2[j]? = some z := ⟨zs2[j], List.getElem?_eq_getElem (by omega)⟩
              obtain ⟨p2, off2, xa, xc, cap2, hv2, hz2, c0, c1, c2, c3, _, _⟩ := xrow_at hxr2 hzj
              obtain ⟨rfl, rfl⟩ : la2 = some ⟨p2, off2, none⟩ ∧ lc2 = cap2 := by
                injection hv2 with e1 _ e3
                exact ⟨e1, e3⟩
              have hyj : b'.ls[j]? = some z.1 := by rw [← hzs2, List.getElem?_map, hzj]; rfl
              have hna := note_at HNI.out HST.out hr' hyj
              have hlet := (letOk_iff.1 (rightL_at (by unfold rightB at hr'; simp only [Bool.and_eq_true] at hr'; exact hr'.1.1.1) hyj))
              have hri := rising_of hr'
              have hfind : findB b'.ls z.1.uid = some j := find_at hri.2 hyj rfl
              have hu := hri.1 z.1 (List.mem_of_getElem? hyj)
              have hstep : updL f (b'.ls.take (j + 1)) = addN (updL f (b'.ls.take j)) z.1 := by
                rw [List.take_add_one, hyj]
                exact updL_snoc f (b'.ls.take j) z.1
              have hds := HDJ.out z.1.uid
              have hput := HDJ.out.put hmj.isMap z.1
              obtain ⟨⟨uid, fl, dy, tx⟩, zv⟩ := z
              simp only at c0 c1 c2 c3 hna hlet hfind hu hds hput hstep
              obtain ⟨fn, hfn⟩ : ∃ fn, fl.length = fn := ⟨_, rfl⟩
              rw [hfn] at c1
              have htx : tx.length ≤ 2000 := hlet.2.2.2.2.2
              have hkey := key_ofI (x := uid) (WalkArith.wf_i64 (by omega))
              have hts := text_size tx
              have hjz : (j : Int) < (b'.ls.length : Int) := by omega
              have yl : Below wr.heap.size wr (wr.alloc (.cells #[.int .i64 uid, .slice xa fn xc, .int .i64 dy, .string ⟨tx.toArray⟩] 39)) := (Below.refl _ _).alloc (Nat.le_refl _) _
              have xl := World.heap_alloc_new wr (.cells #[.int .i64 uid, .slice xa fn xc, .int .i64 dy, .string ⟨tx.toArray⟩] 39)
              have hbl := hbj.out.below yl
              have hml := om_below hmj yl
              have hbrl := hbrj.out.trans (yl.mono hbrj.out.size)
              obtain ⟨Lb, hLb⟩ : ∃ Lb, wr.heap.size = Lb := ⟨_, rfl⟩
              have hLbl : Lb < (wr.alloc (.cells #[.int .i64 uid, .slice xa fn xc, .int .i64 dy, .string ⟨tx.toArray⟩] 39)).heap.size := by rw [alloc_size, hLb]; exact Nat.lt_succ_self _
              rw [hLb] at xl
              obtain ⟨l0, l1, l2, l3⟩ := four_cells xl
              obtain ⟨wl, hwl⟩ : ∃ wl, wr.alloc (.cells #[.int .i64 uid, .slice xa fn xc, .int .i64 dy, .string ⟨tx.toArray⟩] 39) = wl := ⟨_, rfl⟩
              have HWL := Lib.hid hwl
              have HLB := Lib.hid hLb
              clear hLb hwl hzj hyj hri hfn hlet hbj hmj hds hv2 hz2 hBc2 hzs2 hxr2 hzl2 hMl
              go_upto_region 18 with fail
              rw [HLB.out, HWL.out]
              rw [HWL.out] at l0 l1 l2 l3 hbl hml hbrl hLbl xl
              clear c0 c1 c2 c3 d2
              have hBLb : ¬ ((fun j => some (B + 1) = some j) Lb) := by
                show ¬ some (B + 1) = some Lb
                intro e
                injection e with e
                obtain ⟨es, cl, hmo⟩ := om_obj hml
                rw [e, xl] at hmo
                cases hmo
              have hfin : ∀ w6, wl.grownBy w6 (some (B + 1)) → Hid (BoxS w.heap.size w6 B b') ∧ w6.cell? ⟨Lb, 0, none⟩ = some (.int .i64 uid) ∧ Hid (Below w.heap.size w w6) := fun w6 hg => by
                have hk := kept_grown hg
                have hsp := spares_map hml (show w.heap.size ≤ B + 1 by omega)
                refine ⟨hbl.kept hk hsp (fun e => by injection e with e; omega), (four_cells (hk.obj xl hBLb)).1, hbrl.grown hg hbrl.size (fun q e => by injection e with e; omega)⟩
              have cF := fun w6 (h : BoxS w.heap.size w6 B b') => find_any_box B b' uid w6 h.at (rising_of hr') (by omega) (by omega) (by omega)
              rw [hfind] at cF
              have cF2 : ∀ w6, BoxS w.heap.size w6 B b' → Calls Tryd.prog 9 #[.pointer (some ⟨B, 0, none⟩), .int .i64 uid] w6 fun e w' => e = .returned (.tuple #[.int .i64 (j : Int), .bool true]) ∧ Below w6.heap.size w6 w' := fun w6 h => (cF w6 h).mono (by rintro e w' ⟨i, h, h1, h2⟩; rw [h1.out j rfl] at h; exact ⟨h, h2⟩)
              have HFIN := Lib.hid hfin
              have HPUT := Lib.hid hput
              have HSTEP := Lib.hid hstep
              have hdd := HDJ.out uid
              have hn2m : n2 < maxLen := by unfold maxLen; omega
              clear hfin hput hstep cF hfind xl hBLb hbl
              rcases hna with hna | ⟨hna, hub⟩
              · rw [hna] at hdd
                have hat : D2.atKey (.int .i64 uid) (.lit (.string [])) = .lit (.string tx) := hdd.1
                have hok : has D2 (.int .i64 uid) = true := hdd.2
                clear hna hdd
                have HAT := Lib.hid hat
                have HOK := Lib.hid hok
                clear hat hok
                go_wp2_with (first
                  | (at_lookup; go_must (refine wpList_look_str _ rfl _ _ 29 rfl 3 9 lawI Tryd.underlying29 Tryd.underlying9 (zero_str _) (B + 1) n2 D2 rfl hml _ _ rfl hkey tx true HAT.out HOK.out ?_))
                  | (at_mapUpdate; go_must (refine wpList_mapUpdate_own _ rfl _ _ _ 29 rfl 3 9 lawI Tryd.underlying29 _ (B + 1) n2 _ rfl hml hn2m _ _ _ rfl rfl hkey _ [] (plainElem_string Tryd.underlying9 (s := ⟨tx.toArray⟩) (by rw [hts]; unfold maxLen; omega)) ?_); intro w6 hown6 hgrow6; obtain ⟨hb6, l6, hbr6⟩ := HFIN.out w6 hgrow6)
                  | (go_at_call 9; go_loud ((with_reducible refine (cF2 _ hb6.out).mono ?_); rintro e w7 ⟨rfl, h7⟩)))
                go_roundg (gk - 1)
                case measure => omega
                case rel =>
                  refine ⟨j + 1, n2 + 1, _, by omega, by go_num, hb6.out.below h7, om_below hown6 h7, by omega, ?_, hbr6.out.trans (h7.mono hbr6.out.size)⟩
                  show DS _ _
                  rw [HSTEP.out]
                  exact HPUT.out
              · rw [hna] at hdd
                have hat : D2.atKey (.int .i64 uid) (.lit (.string [])) = .lit (.string []) := hdd.1
                have hok : has D2 (.int .i64 uid) = false := hdd.2
                have hult : decide (uid < b.next) = false := decide_eq_false (by omega)
                clear hna hdd hub
                have HAT := Lib.hid hat
                have HOK := Lib.hid hok
                clear hat hok
                go_wp2_with (first
                  | (at_lookup; go_must (refine wpList_look_str _ rfl _ _ 29 rfl 3 9 lawI Tryd.underlying29 Tryd.underlying9 (zero_str _) (B + 1) n2 D2 rfl hml _ _ rfl hkey [] false HAT.out HOK.out ?_))
                  | (at_mapUpdate; go_must (refine wpList_mapUpdate_own _ rfl _ _ _ 29 rfl 3 9 lawI Tryd.underlying29 _ (B + 1) n2 _ rfl hml hn2m _ _ _ rfl rfl hkey _ [] (plainElem_string Tryd.underlying9 (s := ⟨tx.toArray⟩) (by rw [hts]; unfold maxLen; omega)) ?_); intro w6 hown6 hgrow6; obtain ⟨hb6, l6, hbr6⟩ := HFIN.out w6 hgrow6)
                  | (go_at_call 9; go_loud ((with_reducible refine (cF2 _ hb6.out).mono ?_); rintro e w7 ⟨rfl, h7⟩)))
                go_roundg (gk - 1)
                case measure => omega
                case rel =>
                  refine ⟨j + 1, n2 + 1, _, by omega, by go_num, hb6.out.below h7, om_below hown6 h7, by omega, ?_, hbr6.out.trans (h7.mono hbr6.out.size)⟩
                  show DS _ _
                  rw [HSTEP.out]
                  exact HPUT.out
            · obtain rfl : j = b'.ls.length := by omega
              have HMJ := Lib.hid hmj
              clear hmj hMl hBc2 hzs2 hxr2 hzl2
              go_wp2_with fail
              go_roundg g'
              case measure => omega
              case rel =>
                have hdj := HDJ.out
                rw [List.take_length] at hdj
                exact ⟨k + 1, n2, b', D2, updL f b'.ls, by omega, by go_num, hbj.out, hr', HMJ.out, by omega, hdj, note_step HNI.out HST.out hr', hbrj.out⟩
      · go_wp2_with fail
        go_ret
        exact ⟨rfl, hbr⟩
end Go.Proofs.YtnohhndnbkplgaaDoor
