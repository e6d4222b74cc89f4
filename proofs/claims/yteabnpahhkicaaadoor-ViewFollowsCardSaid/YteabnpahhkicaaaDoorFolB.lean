/- The walk over the statement ViewFollows. Condition: flags.system lies as the program's text lays it. -/
import Derived.Test.YteabnpahhkicaaaDoorFolG
import Derived.Maps.AppendAt
import Derived.IntWalk
import Derived.Deep.RegionHeld3
namespace Go.Proofs.YteabnpahhkicaaaDoor
open Go.RowKit Go.Shelf Go.Sort
set_option linter.unusedSimpArgs false

/-- a row of rows of posts -/
def PPRow (w : World) (v : Value) (ll : List (List Pst)) : Prop := ∃ ao cap, v = .slice ao ll.length cap ∧ ll.length ≤ cap ∧ (cap ≤ 9223372036854775807 ∧ (ao = none → cap = 0)) ∧ ∀ (j : Nat) (l : List Pst), ll[j]? = some l → ∃ b off pv, ao = some ⟨b, off, none⟩ ∧ b < w.heap.size ∧ w.cell? ⟨b, off + j, none⟩ = some pv ∧ PRow w pv l
/-- a row of truths -/
def GRow (w : World) (v : Value) (l : List Bool) : Prop := ∃ ao cap, v = .slice ao l.length cap ∧ l.length ≤ cap ∧ (cap ≤ 9223372036854775807 ∧ (ao = none → cap = 0)) ∧ ∀ (j : Nat) (x : Bool), l[j]? = some x → ∃ b off, ao = some ⟨b, off, none⟩ ∧ b < w.heap.size ∧ w.cell? ⟨b, off + j, none⟩ = some (.bool x)
/-- posts as they may be handed over -/
def PstOk (l : List Pst) : Prop := (∀ x ∈ l, (∀ t ∈ x.flags, t.length ≤ 9223372036854775807) ∧ x.text.length ≤ 9223372036854775807) ∧ ∀ x ∈ l, -9223372036854775808 ≤ x.uid ∧ x.uid ≤ 9223372036854775807 ∧ -9223372036854775808 ≤ x.n ∧ x.n ≤ 9223372036854775807
theorem short_parts {l : List Pst} (h : shortF l = true) : l.length ≤ 40 ∧ ∀ x ∈ l, textsF x.flags = true ∧ x.text.length ≤ 300 := by
  unfold shortF at h
  simp only [Bool.and_eq_true, decide_eq_true_eq, List.all_eq_true] at h
  refine ⟨h.1, fun x hx => ?_⟩
  have := h.2 x hx
  unfold pstF at this
  simp only [Bool.and_eq_true, decide_eq_true_eq] at this
  exact this

theorem gone_len (ls : List Let) (us : Us) : ∀ c, (goneL ls us c).length ≤ c
  | 0 => Nat.le_refl _
  | c + 1 => by
    have ih := gone_len ls us c
    unfold goneL
    rw [List.length_append]
    split
    · split
      · simp; omega
      · simp; omega
    · simp; omega
theorem ch_len (ls : List Let) : ∀ (us : Us) (i : Nat), (chF ls i us).length ≤ us.length
  | [], i => Nat.le_refl _
  | u :: r, i => by
    have ih := ch_len ls r (i + 1)
    show (_ ++ chF ls (i + 1) r).length ≤ _
    rw [List.length_append, List.length_cons]
    have : (if (nowF ls u).2 = u.2 then ([] : List Nw) else [⟨3, (i + 1 : Nat), (nowF ls u).2⟩]).length ≤ 1 := by split <;> simp
    omega
theorem news_len (ls : List Let) (us : Us) (g : Bool) : (lookF ls us g).1.length ≤ 2 * us.length + 1 := by
  unfold lookF
  dsimp only
  rw [List.length_append, List.length_append]
  have h1 : (if g then goneL ls us us.length else []).length ≤ us.length := by
    split
    · exact gone_len ls us _
    · simp
  have h2 : ∀ (p : Prop) [Decidable p] (x : Nw), (if p then [x] else []).length ≤ 1 := fun p _ x => by split <;> simp
  have h3 : (if g then us.filter (foundB ls) else us).length ≤ us.length := by
    split
    · exact List.length_filter_le _ _
    · exact Nat.le_refl _
  have h4 := ch_len ls (if g then us.filter (foundB ls) else us) 0
  have h5 := h2 ((if g then us.filter (foundB ls) else us).length < (seeF ls ((if g then us.filter (foundB ls) else us).map (nowF ls))).length) ⟨2, ((seeF ls ((if g then us.filter (foundB ls) else us).map (nowF ls))).length : Nat), []⟩
  omega

set_option maxRecDepth 100000 in
set_option maxHeartbeats 16000000 in
theorem follows_any (v vv gv : Value) (l : List Pst) (ll : List (List Pst)) (gone : List Bool) (w : World) (hv : PRow w v l) (hvv : PPRow w vv ll) (hgv : GRow w gv gone) (ho : PstOk l) (hoo : ∀ x ∈ ll, PstOk x) (hG : FlagG w) :
    Calls Tryd.prog 3 #[v, vv, gv] w fun e w' => e = .returned (.bool true) ∧ Below w.heap.size w w' := by
  have cSh := short_any v l w hv ho.1
  have hgl := flagG_lt hG
  obtain ⟨ao, cap, rfl, hcap, ⟨hcm, hnone⟩, hcell⟩ := hv
  obtain ⟨aoo, capp, rfl, hcapp, ⟨hcmm, hnonee⟩, hcelll⟩ := hvv
  obtain ⟨ag, capg, rfl, hcapg, ⟨hcmg, hnoneg⟩, hcellg⟩ := hgv
  cases hsh : shortF l with
  | false =>
    rw [hsh] at cSh
    clear hcell hsh hcelll hcellg
    --F{
    go_enter Tryd.func3, Tryd.ntmps3
    go_wp2_with (go_at_call 4; (with_reducible refine cSh.mono ?_); rintro e w2 ⟨rfl, h⟩)
    go_ret
    exact ⟨rfl, h⟩
    --F}
  | true =>
    rw [hsh] at cSh
    obtain ⟨hl40, hps⟩ := short_parts hsh
    by_cases h10 : (10 : Int) < (ll.length : Int)
    · clear hcell hsh hcelll hcellg
      --F{
      go_enter Tryd.func3, Tryd.ntmps3
      go_wp2_with (go_at_call 4; (with_reducible refine cSh.mono ?_); rintro e w2 ⟨rfl, h⟩)
      go_ret
      exact ⟨rfl, h⟩
      --F}
    · by_cases h20 : (20 : Int) < (gone.length : Int)
      · clear hcell hsh hcelll hcellg
        --F{
        go_enter Tryd.func3, Tryd.ntmps3
        go_wp2_with (go_at_call 4; (with_reducible refine cSh.mono ?_); rintro e w2 ⟨rfl, h⟩)
        go_ret
        exact ⟨rfl, h⟩
        --F}
      · have cB := fun W (h : Below w.heap.size w W) => boxed_any W (hG.below h)
        have HC := Lib.hid hcell
        have HCC := Lib.hid hcelll
        have HCG := Lib.hid hcellg
        have HI := Lib.hid ho
        have HOO := Lib.hid hoo
        have HP := Lib.hid hps
        clear hcell hcelll hcellg hsh ho hoo hps hcap hnone hcapp hnonee hcapg hnoneg
        go_enter Tryd.func3, Tryd.ntmps3
        go_upto_region 6 with (first
          | (go_at_call 4; (with_reducible refine cSh.mono ?_); rintro e w2 ⟨rfl, h⟩)
          | (go_at_call 5; (with_reducible refine (cB _ h).mono ?_); rintro e w3 ⟨rfl, h3⟩; have y3 := h.trans (h3.mono h.size)))
        obtain ⟨B, hB⟩ : ∃ B, w3.heap.size = B := ⟨_, rfl⟩
        have hx0 := World.heap_alloc_new w3 (.cells #[.int .i64 1, .int .i64 1, .slice none 0 0] 29)
        have hs0 := alloc_size w3 (.cells #[.int .i64 1, .int .i64 1, .slice none 0 0] 29)
        have hNw : w.heap.size ≤ B := by rw [← hB]; exact y3.size
        have hW0 : Below w.heap.size w (w3.alloc (.cells #[.int .i64 1, .int .i64 1, .slice none 0 0] 29)) := y3.alloc y3.size _
        have hb0 : BoxS w.heap.size (w3.alloc (.cells #[.int .i64 1, .int .i64 1, .slice none 0 0] 29)) B ⟨1, 1, []⟩ := by
          rw [hB] at hx0
          exact ⟨.slice none 0 0, [], hx0, rfl, ⟨⟨none, 0, rfl, Nat.le_refl _, ⟨by decide, fun _ => rfl⟩, (fun z hz => by cases hz), fun j u h => by simp [cellsL] at h⟩, safe_nil _ _, (fun z hz => by cases hz)⟩⟩
        rw [hB]
        obtain ⟨W0, hW0e⟩ : ∃ W0, w3.alloc (.cells #[.int .i64 1, .int .i64 1, .slice none 0 0] 29) = W0 := ⟨_, rfl⟩
        rw [hW0e] at hW0 hb0 ⊢
        clear hW0e hx0 hs0 hB cSh cB h3 h y3
        have hr0 : rightB ⟨1, 1, []⟩ = true := rfl
        go_wp2_with fail
        go_loopg [8] l.length (fun g s8 wr => ∃ (k : Nat) (b : BoxP), k + g = l.length ∧ s8 = .int .i64 (k : Int) ∧ BoxS w.heap.size wr B b ∧ rightB b = true ∧ Below w.heap.size w wr)
        case atStart => exact ⟨0, _, by omega, rfl, hb0, hr0, hW0⟩
        case round =>
          as_aux_lemma =>
          obtain ⟨k, b, hk, rfl, hb, hr, hbr⟩ := hrel
          clear hb0 hr0 hW0
          by_cases hlt : k < l.length
          · obtain ⟨g', rfl⟩ : ∃ g', gk = g' + 1 := ⟨gk - 1, by omega⟩
            obtain ⟨x, hx⟩ : ∃ x, l[k]? = some x := ⟨l[k], List.getElem?_eq_getElem hlt⟩
            obtain ⟨pa, off, fv, rfl, hpa, hS, c0, c1, c2, c3, c4⟩ := HC.out k x hx
            have hxm := List.mem_of_getElem? hx
            obtain ⟨hi0, hi1, hi2, hi3⟩ := HI.out.2 x hxm
            obtain ⟨hp1, hp2⟩ := HP.out x hxm
            have hkz : (k : Int) < (l.length : Int) := by omega
            have hshort := (texts_short hp1).1
            have hG1 := hG.below hbr
            have hS1 := hS.below hbr
            have e0 := (hbr.cell (p := ⟨pa, off + k * 5, none⟩) hpa).trans c0
            have e1 := (hbr.cell (p := ⟨pa, off + k * 5 + 1, none⟩) hpa).trans c1
            have e2 := (hbr.cell (p := ⟨pa, off + k * 5 + 2, none⟩) hpa).trans c2
            have e3 := (hbr.cell (p := ⟨pa, off + k * 5 + 3, none⟩) hpa).trans c3
            have e4 := (hbr.cell (p := ⟨pa, off + k * 5 + 4, none⟩) hpa).trans c4
            have cPo := post_any w.heap.size B b x fv wr hb hNw hr hS1 hshort (by omega) hG1 hgl hi0 hi1 hi2 hi3
            have hr' := right_post hr x (pickF x.n 100) (pickF x.n 3)
            obtain ⟨fa, fc, rfl⟩ : ∃ fa fc, fv = .slice fa x.flags.length fc := by
              obtain ⟨ao, cap, h, _⟩ := hS
              exact ⟨_, _, h⟩
            clear c0 c1 c2 c3 c4 hx hS hS1 hb hr
            --F{
            go_wp2_with (go_at_call 6; go_loud ((with_reducible refine cPo.mono ?_); rintro e wp hpost; obtain ⟨he, hb', hkp⟩ := hpost.out; subst he))
            have hbp : Below w.heap.size w wp := hbr.trans (hkp.below hbr.size (fun j e => by rw [e]; exact hNw))
            go_roundg g'
            case measure => omega
            case rel => exact ⟨k + 1, _, by omega, by go_num, hb', hr', hbp⟩
            --F}
          · clear HC HP
            have hfl : ∀ x ∈ b.ls, x.flags.length ≤ 1000000 := fun x hx => by have := (set_ok (right_flags hr hx)).2.2; omega
            have hll := right_len hr
            have HB := Lib.hid hb
            obtain ⟨lv, zs, hBc, hzs, hxr⟩ := hb
            obtain ⟨la, lc, hlv, _⟩ := hxr.1
            subst hlv
            obtain ⟨d0, d1, d2⟩ := three_cells hBc
            have hwr : w.heap.size ≤ wr.heap.size := hbr.size
            have cO := open_any w.heap.size b (.slice la zs.length lc) zs wr hwr hzs hxr hfl (by omega)
            clear hBc hzs hxr
            go_upto_region 12 with (go_at_call 7; go_loud ((with_reducible refine cO.mono ?_); rintro e w4 ⟨V, uv, fv, rfl, hVw, hv4, h4⟩))
            have hNV : w.heap.size ≤ V := by omega
            have hF0 : FolS w.heap.size B V b (b.ls.map fun x => (x.uid, x.flags)) ((b.ls.take 0).map (·.flags)) w4 (.slice none 0 0) := ⟨HB.out.below h4, ⟨uv, fv, hv4, fun j e => by cases e⟩, [], World.ownsRow_nil _ _ _ _, fun i f h => by simp at h⟩
            have hb4 : Below w.heap.size w w4 := hbr.trans (h4.mono hwr)
            clear d0 d1 d2 cO HB h4 hv4 hVw hbr
            obtain ⟨i2, hi2, hz20, hz21, hz22⟩ := info_parts infoRowS
            go_wp2_with fail
            go_loopg [10, 11] b.ls.length (fun g s10 s11 wr => ∃ (k : Nat), k + g = b.ls.length ∧ s11 = .int .i64 (k : Int) ∧ FolS w.heap.size B V b (b.ls.map fun x => (x.uid, x.flags)) ((b.ls.take k).map (·.flags)) wr s10 ∧ Below w.heap.size w wr)
            case atStart => exact ⟨0, by omega, rfl, hF0, hb4⟩
            case round =>
              as_aux_lemma =>
              obtain ⟨k, hk, rfl, hF, hbr⟩ := hrel
              clear hF0 hb4
              by_cases hlt : k < b.ls.length
              · obtain ⟨g', rfl⟩ : ∃ g', gk = g' + 1 := ⟨gk - 1, by omega⟩
                obtain ⟨lv, zs, hBc, hzs, hxr⟩ := hF.hb
                have hzl : zs.length = b.ls.length := by rw [← hzs, List.length_map]
                obtain ⟨z, hzk⟩ : ∃ z, zs[k]? = some z := ⟨zs[k], List.getElem?_eq_getElem (by omega)⟩
                obtain ⟨p2, off2, xa, xc, cap2, hv2, hz2, c0, c1, c2, c3, hS, hSf⟩ := xrow_at hxr hzk
                subst hv2
                have d2 := (three_cells hBc).2.2
                have hkz : (k : Int) < (zs.length : Int) := by omega
                obtain ⟨gs, hot, hrt⟩ := hF.ht
                have hbase : w.heap.size ≤ wr.heap.size := hbr.size
                have hls : (b.ls.take (k + 1)).map (·.flags) = (b.ls.take k).map (·.flags) ++ [z.1.flags] := by
                  have : b.ls[k]? = some z.1 := by rw [← hzs, List.getElem?_map, hzk]; rfl
                  rw [List.take_add_one, this, List.map_append]
                  rfl
                have htl : ((b.ls.take k).map (·.flags)).length = k := by rw [List.length_map, List.length_take]; omega
                have HLS := Lib.hid hls
                have hfz := hfl z.1 (by rw [← hzs]; exact List.mem_map_of_mem (List.mem_of_getElem? hzk))
                have HF := Lib.hid hF
                have HRT := Lib.hid hrt
                have HS := Lib.hid hS
                have HSF := Lib.hid hSf
                have hot2 := hot.alloc (.cells #[.slice xa z.1.flags.length xc] 34)
                rw [htl] at hot2
                have HOT := Lib.hid hot
                clear hls hF hrt hS hSf hot hBc hzs hxr c0 c2 c3 hz2 hzk
                --F{
                go_wp2_with (at_builtin; go_must (refine wpList_append_own_at _ rfl _ _ 39 rfl w.heap.size 34 i2 _ 1 24 Tryd.underlying39 hi2 hz20 hz21 hz22 rfl (by decide) _ _ _ rfl hot2 ⟨wr.heap.size, 0, none⟩ 1 1 [.slice xa z.1.flags.length xc] rfl rfl (cell_one_new wr _ _) ?c1 ?c4 ?c5 ?c6 ?_))
                case c1 => rfl
                case c4 => unfold maxLen; omega
                case c5 => omega
                case c6 => omega
                intro v' w1 hown hgrow _ hplace
                have hF1 := HF.out.more (g := (xa, z.1.flags.length, xc)) HS.out HSF.out HOT.out HRT.out (owns_n hown (by rw [htl])) hgrow hplace
                rw [← HLS.out] at hF1
                have hb1 : Below w.heap.size w w1 := (hbr.alloc hbase _).grown hgrow (by rw [alloc_size]; omega) (fun j e => (HOT.out.lt j e).1)
                go_wp2_with fail
                go_roundg g'
                case measure => omega
                case rel => exact ⟨k + 1, by omega, by go_num, hF1, hb1⟩
                --F}
              · obtain rfl : k = b.ls.length := by omega
                rw [List.take_length] at hF
                obtain ⟨lv, zs, hBc, hzs, hxr⟩ := hF.hb
                have hzl : zs.length = b.ls.length := by rw [← hzs, List.length_map]
                obtain ⟨la2, lc2, hlv2, _⟩ := hxr.1
                subst hlv2
                have d2 := (three_cells hBc).2.2
                rw [hzl] at d2
                clear hBc hzs hxr
                go_upto_region 16 with fail
                clear d2
                have hse0 := sees_open hr
                have hT0 : b.ls.map (·.flags) = (b.ls.map fun x => (x.uid, x.flags)).map (·.2) := by rw [List.map_map]; rfl
                rw [hT0] at hF
                have hus0 : (b.ls.map fun x => (x.uid, x.flags)).length ≤ 60 * (0 + 1) := by rw [List.length_map]; omega
                have huf0 : ∀ u ∈ b.ls.map fun x => (x.uid, x.flags), u.2.length ≤ 1000000 := fun u hu => by
                  obtain ⟨x, hx, rfl⟩ := List.mem_map.1 hu
                  exact hfl x hx
                obtain ⟨us0, hu0⟩ : ∃ us0, (b.ls.map fun x => (x.uid, x.flags)) = us0 := ⟨_, rfl⟩
                rw [hu0] at hF hse0 hus0 huf0
                clear hT0 hu0 hfl hll HI hl40
                go_wp2_with fail
                go_loopg [10, 12] ll.length (fun g s10 s12 wr => ∃ (k : Nat) (b : BoxP) (us : Us), k + g = ll.length ∧ s12 = .int .i64 (k : Int) ∧ FolS w.heap.size B V b us (us.map (·.2)) wr s10 ∧ rightB b = true ∧ Sees b us ∧ us.length ≤ 60 * (k + 1) ∧ (∀ u ∈ us, u.2.length ≤ 1000000) ∧ Below w.heap.size w wr)
                case atStart => exact ⟨0, b, us0, by omega, rfl, hF, hr, hse0, hus0, huf0, hbr⟩
                case round =>
                  as_aux_lemma =>
                  clear hF hr hse0 hus0 huf0 hbr hzl
                  obtain ⟨k, b, us, hk, rfl, hF, hr, hse, hul, huf, hbr⟩ := hrel
                  by_cases hlt : k < ll.length
                  · obtain ⟨g', rfl⟩ : ∃ g', gk = g' + 1 := ⟨gk - 1, by omega⟩
                    obtain ⟨lk, hlk⟩ : ∃ lk, ll[k]? = some lk := ⟨ll[k], List.getElem?_eq_getElem hlt⟩
                    obtain ⟨pa, off, pv, rfl, hpa, c0, hPR⟩ := HCC.out k lk hlk
                    have hok := HOO.out lk (List.mem_of_getElem? hlk)
                    have hkz : (k : Int) < (ll.length : Int) := by omega
                    have e0 := (hbr.cell (p := ⟨pa, off + k, none⟩) hpa).trans c0
                    have cShk := short_any pv lk wr (hPR.below hbr) hok.1
                    obtain ⟨pao, pcap, rfl, hpcap, ⟨hpcm, hpnone⟩, hpcell⟩ := hPR
                    cases hshk : shortF lk with
                    | false =>
                      rw [hshk] at cShk
                      clear hpcell hshk hlk
                      --F{
                      go_wp2_with (go_at_call 4; (with_reducible refine cShk.mono ?_); rintro e w5 ⟨rfl, h5⟩)
                      go_ret
                      exact ⟨rfl, hbr.trans (h5.mono hbr.size)⟩
                      --F}
                    | true =>
                      rw [hshk] at cShk
                      obtain ⟨hl40, hps⟩ := short_parts hshk
                      have HPC := Lib.hid hpcell
                      have HOK := Lib.hid hok
                      have HPS := Lib.hid hps
                      clear hpcell hshk hlk hok hps hpcap hpnone
                      go_upto_region 21 with (go_at_call 4; (with_reducible refine cShk.mono ?_); rintro e w5 ⟨rfl, h5⟩)
                      have hF5 := hF.below h5
                      have hb5 := hbr.trans (h5.mono hbr.size)
                      clear cShk h5 hF hbr e0
                      go_wp2_with fail
                      go_loopg [13] lk.length (fun g s13 wr => ∃ (m : Nat) (b : BoxP), m + g = lk.length ∧ s13 = .int .i64 (m : Int) ∧ FolS w.heap.size B V b us (us.map (·.2)) wr u10 ∧ rightB b = true ∧ Sees b us ∧ Below w.heap.size w wr)
                      case atStart => exact ⟨0, b, by omega, rfl, hF5, hr, hse, hb5⟩
                      case round =>
                        as_aux_lemma =>
                        clear hF5 hr hse hb5
                        obtain ⟨m, b, hm, rfl, hF, hr, hse, hbr⟩ := hrel
                        have e0 := (hbr.cell (p := ⟨pa, off + k, none⟩) hpa).trans c0
                        by_cases hltm : m < lk.length
                        · obtain ⟨x, hx⟩ : ∃ x, lk[m]? = some x := ⟨lk[m], List.getElem?_eq_getElem hltm⟩
                          obtain ⟨pb, ofb, fv, rfl, hpb, hS, c0, c1, c2, c3, c4⟩ := HPC.out m x hx
                          have hxm := List.mem_of_getElem? hx
                          obtain ⟨hi0, hi1, hi2, hi3⟩ := HOK.out.2 x hxm
                          obtain ⟨hp1, hp2⟩ := HPS.out x hxm
                          have hmz : (m : Int) < (lk.length : Int) := by omega
                          have hshort := (texts_short hp1).1
                          have hG1 := hG.below hbr
                          have hS1 := hS.below hbr
                          have e10 := (hbr.cell (p := ⟨pb, ofb + m * 5, none⟩) hpb).trans c0
                          have e1 := (hbr.cell (p := ⟨pb, ofb + m * 5 + 1, none⟩) hpb).trans c1
                          have e2 := (hbr.cell (p := ⟨pb, ofb + m * 5 + 2, none⟩) hpb).trans c2
                          have e3 := (hbr.cell (p := ⟨pb, ofb + m * 5 + 3, none⟩) hpb).trans c3
                          have e4 := (hbr.cell (p := ⟨pb, ofb + m * 5 + 4, none⟩) hpb).trans c4
                          have cPo := post_any w.heap.size B b x fv wr hF.hb hNw hr hS1 hshort (by omega) hG1 hgl hi0 hi1 hi2 hi3
                          have hr' := right_post hr x (pickF x.n 100) (pickF x.n 3)
                          have hse' := sees_post hse (post_stays b x (pickF x.n 100) (pickF x.n 3)).2
                          obtain ⟨fa, fc, rfl⟩ : ∃ fa fc, fv = .slice fa x.flags.length fc := by
                            obtain ⟨ao, cap, h, _⟩ := hS
                            exact ⟨_, _, h⟩
                          have HF := Lib.hid hF
                          clear c0 c1 c2 c3 c4 hx hS hS1 hr hF hse
                          --F{
                          go_wp2_with (go_at_call 6; go_loud ((with_reducible refine cPo.mono ?_); rintro e wp hpost; obtain ⟨he, hb', hkp⟩ := hpost.out; subst he))
                          have hbp : Below w.heap.size w wp := hbr.trans (hkp.below hbr.size (fun j e => by rw [e]; exact hNw))
                          have hFp := HF.out.post hNw hkp hb'
                          go_roundg (gk - 1)
                          case measure => omega
                          case rel => exact ⟨m + 1, _, by omega, by go_num, hFp, hr', hse', hbp⟩
                          --F}
                        · clear HPC HPS HOK
                          go_upto_region 25 with fail
                          go_cut [14] (fun s14 wx => ∃ al : Bool, s14 = .bool al ∧ wx = wr)
                          case first =>
                            --F{
                            by_cases hkg : (k : Int) < (gone.length : Int)
                            · obtain ⟨gb, hgb⟩ : ∃ gb, gone[k]? = some gb := ⟨gone[k]'(by omega), List.getElem?_eq_getElem (by omega)⟩
                              obtain ⟨qb, qo, rfl, hqb, qc⟩ := HCG.out k gb hgb
                              have q0 := (hbr.cell (p := ⟨qb, qo + k, none⟩) hqb).trans qc
                              clear hgb qc
                              go_wp2_with fail
                              go_meet
                              exact ⟨_, rfl, rfl⟩
                            · go_wp2_with fail
                              go_meet
                              exact ⟨_, rfl, rfl⟩
                            --F}
                          case rest =>
                            obtain ⟨al, hal, hwx⟩ := hcut
                            subst hal
                            rw [hwx]
                            clear hwx
                            have hfl : ∀ x ∈ b.ls, x.flags.length ≤ 1000000 := fun x hx => by have := (set_ok (right_flags hr hx)).2.2; omega
                            have hll := right_len hr
                            have hnx := (right_parts hr).2.1
                            have hur : ∀ u ∈ us, -9223372036854775808 ≤ u.1 ∧ u.1 ≤ 9223372036854775807 := fun u hu => by have := hse.low u hu; omega
                            have hHF := Lib.hid hF
                            obtain ⟨lv, zs, hBc, hzs, hxr⟩ := hF.hb
                            obtain ⟨uv, fv, hv, hne⟩ := hF.hv
                            obtain ⟨la, lc, hlv, _⟩ := hxr.1
                            subst hlv
                            obtain ⟨d0, d1, d2⟩ := three_cells hBc
                            have hwr2 : w.heap.size ≤ wr.heap.size := hbr.size
                            have cL := look_any w.heap.size V b (.slice la zs.length lc) uv fv zs us al wr hv hNV hwr2 hzs hxr (rising_of hr) hfl huf (by omega) hur (by omega)
                            have HV := Lib.hid hv
                            have HNE := Lib.hid hne
                            clear hBc hzs hxr hF hv hne hur
                            go_upto_region 27 with (go_at_call 8; go_loud ((with_reducible refine cL.mono ?_); rintro e w6 ⟨ov, vs, uv', fv', rfl, hov, hrn, hv', hk6, huo, hfo⟩))
                            have hF6 := hHF.out.look hNV HV.out HNE.out hk6 hv' hfo
                            have hb6 : Below w.heap.size w w6 := hbr.trans (hk6.below hwr2 (by
                              obtain ⟨gs, g1, g2, g3, g4⟩ := HV.out
                              rintro j (e | e | e)
                              · omega
                              · exact (g2.lt j e).1
                              · exact (g3.lt j e).1))
                            have htel := look_tells hr hse al
                            have hse6 := sees_look hr hse al
                            have hflg : ∀ u ∈ (lookF b.ls us al).2, ∀ (i : Nat) (x : Let), findB b.ls u.1 = some i → b.ls[i]? = some x → x.flags = u.2 := fun u hu i x => look_flags hr hse al hu
                            have hfnd : al = true → ∀ u ∈ (lookF b.ls us al).2, foundB b.ls u = true := fun e u hu => by subst e; exact look_found hr hse hu
                            have hmny : al = true → (lookF b.ls us al).2.length = b.ls.length := fun e => by subst e; exact look_many hr hse
                            have hagn := look_again hr hse al
                            have hlen6 := look_len hr hse al
                            have hnln := news_len b.ls us al
                            have hsh6 := look_short hr hse al huf hfl
                            have hTl : (us.map (·.2)).length ≤ 100000 := by rw [List.length_map]; omega
                            obtain ⟨R, hR⟩ : ∃ R, lookF b.ls us al = R := ⟨_, rfl⟩
                            rw [hR] at htel hse6 hflg hfnd hmny hagn hlen6 hnln hsh6 hF6 hrn
                            obtain ⟨ns, us3⟩ := R
                            simp only at htel hse6 hflg hfnd hmny hagn hlen6 hnln hsh6 hF6 hrn
                            obtain ⟨na, nc, rfl⟩ := owns_val hov
                            have hN6 : FolN w.heap.size B V b us3 (us.map (·.2)) w6 u10 (.slice na vs.length nc) vs ns := ⟨hF6, owns_less hov hwr2, hrn⟩
                            have hlu3 : us3.length ≤ 60 * (k + 1 + 1) := by omega
                            have hvln : (vs.length : Int) ≤ 1000000 := by have := hN6.r.1; omega
                            have HFLG := Lib.hid hflg; have HFND := Lib.hid hfnd; have HMNY := Lib.hid hmny; have HAGN := Lib.hid hagn; have HSH := Lib.hid hsh6; have HSE := Lib.hid hse6; have HFL := Lib.hid hfl
                            clear hflg hfnd hmny hagn hlen6 hnln hsh6 hF6 hrn hHF HV HNE cL d0 d1 d2 hk6 hv' huo hfo hR hov hse6 hbr hul huf hse hfl hwr2
                            go_wp2_with fail
                            go_loopg [10, 16] vs.length (fun g s10 s16 wr => ∃ (j : Nat) (T : List Fl), j + g = vs.length ∧ s16 = .int .i64 (j : Int) ∧ FolN w.heap.size B V b us3 T wr s10 (.slice na vs.length nc) vs ns ∧ T.length ≤ 100000 ∧ Tells us3 b.ls al T (ns.drop j) (us3.map (·.2)) ∧ Below w.heap.size w wr)
                            case atStart => exact ⟨0, us.map (·.2), by omega, rfl, hN6, hTl, htel, hb6⟩
                            case round =>
                              as_aux_lemma =>
                              clear hN6 hTl htel hb6
                              obtain ⟨j, T, hj, rfl, hN, hTl, htel, hbr⟩ := hrel
                              by_cases hltj : j < vs.length
                              · have hltn : j < ns.length := by rw [← hN.r.1]; exact hltj
                                obtain ⟨nw, hnw⟩ : ∃ nw, ns[j]? = some nw := ⟨ns[j], List.getElem?_eq_getElem hltn⟩
                                obtain ⟨⟨vk, vn, va, vl, vc⟩, hv1, hvk, hvn, hS, hSf⟩ := hN.r.2 j nw hnw
                                obtain ⟨q, c, hqv, q0, q1, q2⟩ := news_at hN.o hv1
                                obtain ⟨rfl, rfl⟩ : na = some ⟨q, 0, none⟩ ∧ nc = c := by
                                  injection hqv with e1 _ e3
                                  exact ⟨e1, e3⟩
                                have hdr : ns.drop j = nw :: ns.drop (j + 1) := by
                                  rw [List.drop_eq_getElem_cons hltn]
                                  rw [List.getElem?_eq_getElem hltn] at hnw
                                  rw [Option.some.inj hnw]
                                rw [hdr] at htel
                                obtain ⟨hok, htel⟩ := htel
                                obtain ⟨kd, n, fl⟩ := nw
                                simp only at hvk hvn hS hok
                                subst hvk hvn
                                simp only [encSl] at q0 q1 q2 hS hSf
                                have hjz : (j : Int) < (vs.length : Int) := by omega
                                have yl : Below wr.heap.size wr (wr.alloc (.cells #[.int .i64 vk, .int .i64 vn, .slice va vl vc] 45)) := (Below.refl _ _).alloc (Nat.le_refl _) _
                                have xl := World.heap_alloc_new wr (.cells #[.int .i64 vk, .int .i64 vn, .slice va vl vc] 45)
                                have hNl := hN.below yl
                                have hbl := hbr.trans (yl.mono hbr.size)
                                have hSl := hS.below yl
                                have hSfl := hSf.below yl
                                have hsl := alloc_size wr (.cells #[.int .i64 vk, .int .i64 vn, .slice va vl vc] 45)
                                obtain ⟨Xb, hXb⟩ : ∃ Xb, wr.heap.size = Xb := ⟨_, rfl⟩
                                have hXw : w.heap.size ≤ Xb := by rw [← hXb]; exact hbr.size
                                rw [hXb] at xl hsl
                                obtain ⟨x0, x1, x2⟩ := three_cells xl
                                obtain ⟨wl, hwl⟩ : ∃ wl, wr.alloc (.cells #[.int .i64 vk, .int .i64 vn, .slice va vl vc] 45) = wl := ⟨_, rfl⟩
                                rw [hwl] at xl hsl x0 x1 x2 hNl hbl hSl hSfl
                                have HWL := Lib.hid hwl; have HXB := Lib.hid hXb; have HN := Lib.hid hNl; have HSL := Lib.hid hSl; have HSFL := Lib.hid hSfl; have HTEL := Lib.hid htel; have HXL := Lib.hid xl; have HZL := Lib.hid hsl
                                clear hwl hXb hNl hSl hSfl htel xl hsl yl hN hS hSf hv1 hqv hnw hdr hbr
                                go_upto_region 31 with fail
                                rw [HXB.out, HWL.out]
                                clear q0 q1 q2
                                rcases hok with ⟨rfl, h1, h2, hal⟩ | ⟨rfl, h1, h2, h3⟩ | ⟨rfl, h1, h2⟩
                                · obtain ⟨m, hm⟩ : ∃ m : Nat, vn = (m : Int) + 1 := ⟨(vn - 1).toNat, by simp only at h1; omega⟩
                                  simp only at h1 h2
                                  subst hm hal
                                  have hmT : m < T.length := by omega
                                  obtain ⟨gs, hot, hrt⟩ := HN.out.s.ht
                                  obtain ⟨tp, tq, rfl⟩ := own_some hot (by omega)
                                  have hgl : gs.length = T.length := by have := hot.1; simpa using this
                                  have hcap : T.length ≤ tq := owns_cap hot
                                  have hmz : (m : Int) < (T.length : Int) := by omega
                                  have hmc : (m : Int) ≤ (tq : Int) := by omega
                                  have hm0 : (0 : Int) ≤ (m : Int) := by omega
                                  obtain ⟨off, hoff, rs1⟩ := slice_fromR tp T.length tq m (by omega) hcap
                                  have rs2 := slice_uptoR tp T.length tq m (by omega)
                                  have htk : ∀ W, Below wl.heap.size wl W → ∀ (j : Nat) (u : Value), ((gs.take m).map encSl)[j]? = some u → W.cell? ((⟨tp, 0, none⟩ : Addr).add j) = some u := fun W hW j u hu => cells_take hot hW j u hu
                                  have hdk : ∀ W, Below wl.heap.size wl W → ∀ (j : Nat) (u : Value), ((gs.drop (m + 1)).map encSl)[j]? = some u → W.cell? ((⟨tp, off, none⟩ : Addr).add j) = some u := fun W hW j u hu => cells_drop hot hoff hW j u hu
                                  have hone : ∀ (l : List (Option Addr × Nat × Nat)), ∀ u ∈ l.map encSl, u.oneCell' = true := fun l u hu => by
                                    obtain ⟨t, _, rfl⟩ := List.mem_map.1 hu
                                    rfl
                                  have yE : Below wl.heap.size wl (wl.drew.alloc (.cells #[] 34)) := ((Below.refl _ _).drew).alloc (Nat.le_refl _) _
                                  have hXl : Xb < wl.heap.size := (Array.getElem?_eq_some_iff.1 HXL.out).1
                                  have ht1 : tell1 us3 T ⟨1, (m : Int) + 1, fl⟩ = T.eraseIdx m := by
                                    unfold tell1
                                    rw [if_pos rfl]
                                    show T.eraseIdx (((m : Int) + 1).toNat - 1) = _
                                    rw [show ((m : Int) + 1).toNat - 1 = m by omega]
                                  have htel1 := HTEL.out
                                  rw [ht1] at htel1
                                  have HRT := Lib.hid hrt; have HTEL1 := Lib.hid htel1
                                  clear hot hrt htel1 ht1
                                  go_upto_region 35 with fail
                                  have hsub : IntKind.i64.wrap ((m : Int) + 1 - 1) = (m : Int) := by rw [IntWalk.i64_in _ (by omega)]; omega
                                  have hsub2 : IntKind.i64.wrap (m : Int) = (m : Int) := IntWalk.i64_in _ (by omega)
                                  go_region_held3 (fun W => W.cell? ⟨Xb, 1, none⟩ = some (.int .i64 ((m : Int) + 1)))
                                    (first | go_keep | exact d5 | exact d4)
                                    (first
                                      | (refine step_appV w4 rfl _ _ 39 rfl 34 Tryd.underlying39 infoRowS rfl wl.heap.size g1 _ c1 ([] ++ (gs.take m).map encSl) rfl m1.out o1 ⟨tp, off, none⟩ ((gs.drop (m + 1)).map encSl) (T.length - (m + 1)) (tq - (m + 1)) rfl (by simp; omega) (hdk _ y4) (hone _) (by simp; omega) (by decide) y4.size ?_; intro g2 c2 l2 w5 m2 o2 r2 t2; have y5 := Below.grown y4 r2 y4.size (fun j e => by cases e; exact (o1.lt _ rfl).1); have d5 := (y5.cell (p := ⟨Xb, 1, none⟩) hXl).trans x1)
                                      | (refine step_appV (wl.drew.alloc (.cells #[] 34)) rfl _ _ 39 rfl 34 Tryd.underlying39 infoRowS rfl wl.heap.size wl.heap.size 0 0 [] rfl rfl (own_emptyR wl.drew wl.heap.size (Nat.le_refl _)) ⟨tp, 0, none⟩ ((gs.take m).map encSl) m tq rfl (by simp; omega) (htk _ yE) (hone _) (by simp; omega) (by decide) yE.size ?_; intro g1 c1 l1 w4 m1 o1 r1 t1; have y4 := Below.grown yE r1 yE.size (fun j e => by cases e; omega); have d4 := (y4.cell (p := ⟨Xb, 1, none⟩) hXl).trans x1))
                                  go_wp2_with fail
                                  have hgs : ([] ++ (gs.take m).map encSl ++ (gs.drop (m + 1)).map encSl : List Value) = (gs.eraseIdx m).map encSl := by
                                    rw [List.nil_append, ← List.map_append, List.eraseIdx_eq_take_drop_succ]
                                  have hTe : (T.eraseIdx m).length = l2 := by
                                    have := m2.out
                                    rw [List.length_eraseIdx, if_pos hmT]
                                    simp at this
                                    omega
                                  rw [hgs] at o2
                                  have hN1 := HN.out.gone (m := m) y5 HRT.out (owns_n o2 hTe.symm) hbl.size
                                  have hb1 := hbl.trans (y5.mono hbl.size)
                                  have hTl1 : (T.eraseIdx m).length ≤ 100000 := by rw [List.length_eraseIdx, if_pos hmT]; omega
                                  go_roundg (gk - 1)
                                  case measure => omega
                                  case rel => exact ⟨j + 1, T.eraseIdx m, by omega, by go_num, hN1, hTl1, HTEL1.out, hb1⟩
                                · simp only at h1 h2
                                  subst h2
                                  obtain ⟨gn, rfl⟩ : ∃ gn, gk = gn + 1 := ⟨gk - 1, by omega⟩
                                  have hTu : T.length < us3.length := by omega
                                  obtain ⟨ta, tc, rfl⟩ : ∃ a c, u10 = .slice a T.length c := by
                                    obtain ⟨gs, hot, hrt⟩ := HN.out.s.ht
                                    exact owns_val hot
                                  have cU : Calls Tryd.prog 9 #[.pointer (some ⟨V, 0, none⟩)] wl fun e w' => ∃ v', e = .returned v' ∧ w'.ownsRow wl.heap.size 3 1 v' us3.length ((us3.map (·.1)).map (Value.int .i64)) ∧ Below wl.heap.size wl w' := by
                                    obtain ⟨uv, fv, hv, hne⟩ := HN.out.s.hv
                                    exact uids_any w.heap.size V uv fv us3 wl hv (by omega)
                                  obtain ⟨i2, hi2, hz20, hz21, hz22⟩ := info_parts infoRowS
                                  go_upto_block 11 with (go_at_call 9; go_loud ((with_reducible refine cU.mono ?_); rintro e w7 ⟨uw, rfl, hou, h7⟩))
                                  obtain ⟨ua, uc, rfl⟩ := owns_val hou
                                  have hN7 := HN.out.below h7
                                  have hx7 := below_same h7 HXL.out
                                  have hb7 := hbl.trans (h7.mono hbl.size)
                                  have hou7 := owns_less hou hbl.size
                                  have hT7 : T ++ ((us3.drop T.length).take 0).map (·.2) = T := by simp
                                  clear hou h7 cU x0 x1 x2
                                  go_wp2_with fail
                                  go_loopg [10] (us3.length - T.length) (fun g s10 wr => ∃ (i : Nat), i + g = us3.length - T.length ∧ FolN w.heap.size B V b us3 (T ++ ((us3.drop T.length).take i).map (·.2)) wr s10 (.slice (some ⟨q, 0, none⟩) vs.length nc) vs ns ∧ wr.ownsRow w.heap.size 3 1 (.slice ua us3.length uc) us3.length ((us3.map (·.1)).map (Value.int .i64)) ∧ wr.heap[Xb]? = some (.cells #[.int .i64 2, .int .i64 (us3.length : Int), .slice va vl vc] 45 (0, 0)) ∧ Below w.heap.size w wr)
                                  case atStart => exact ⟨0, by omega, by rw [hT7]; exact hN7, hou7, hx7, hb7⟩
                                  case round =>
                                    as_aux_lemma =>
                                    clear hN7 hou7 hx7 hb7 hT7
                                    obtain ⟨i, hi, hN, hou, hX, hbr⟩ := hrel
                                    obtain ⟨Ti, hTi⟩ : ∃ Ti, T ++ ((us3.drop T.length).take i).map (·.2) = Ti := ⟨_, rfl⟩
                                    have hTil : Ti.length = T.length + i := by
                                      rw [← hTi, List.length_append, List.length_map, List.length_take, List.length_drop]
                                      omega
                                    rw [hTi] at hN
                                    obtain ⟨gs, hot, hrt⟩ := hN.s.ht
                                    obtain ⟨tb, td, rfl⟩ := owns_val hot
                                    obtain ⟨x0, x1, x2⟩ := three_cells hX
                                    by_cases hlti : Ti.length < us3.length
                                    · have hz : (Ti.length : Int) < (us3.length : Int) := by omega
                                      obtain ⟨u, hu⟩ : ∃ u, us3[Ti.length]? = some u := ⟨us3[Ti.length], List.getElem?_eq_getElem hlti⟩
                                      have hum := List.mem_of_getElem? hu
                                      have hdu : (us3.drop T.length)[i]? = some u := by rw [List.getElem?_drop, ← hTil]; exact hu
                                      have hfd := h3 u (List.mem_of_getElem? hdu)
                                      obtain ⟨kk, hf⟩ := Option.isSome_iff_exists.1 (show (findB b.ls u.1).isSome = true from hfd)
                                      have hstep : T ++ ((us3.drop T.length).take (i + 1)).map (·.2) = Ti ++ [u.2] := by
                                        rw [List.take_add_one, hdu, List.map_append, ← List.append_assoc, hTi]
                                        rfl
                                      have hlow := HSE.out.low u hum
                                      obtain ⟨pu, qu, eu⟩ := own_some hou (by omega)
                                      injection eu with eu1 _ eu3
                                      subst eu1 eu3
                                      have hcu : wr.cell? ⟨pu, Ti.length, none⟩ = some (.int .i64 u.1) := by
                                        rw [hou.cellAt Ti.length (by omega), List.getElem?_map, List.getElem?_map, hu]; rfl
                                      have cF := find_any_box B b u.1 wr hN.s.hb.at (rising_of hr) (by omega) (by omega) (by omega)
                                      obtain ⟨x, hx, hxu⟩ := findB_some hf
                                      rw [hf] at cF
                                      have cF2 : Calls Tryd.prog 10 #[.pointer (some ⟨B, 0, none⟩), .int .i64 u.1] wr fun e w' => e = .returned (.tuple #[.int .i64 (kk : Int), .bool true]) ∧ Below wr.heap.size wr w' := cF.mono (by rintro e w' ⟨j, h, h1, h2⟩; rw [h1.out kk rfl] at h; exact ⟨h, h2⟩)
                                      have hxe := HFLG.out u hum kk x hf hx
                                      obtain ⟨lv, zs, hBc, hzs, hxr⟩ := hN.s.hb
                                      obtain ⟨z, hzj, hzx⟩ : ∃ z, zs[kk]? = some z ∧ z.1 = x := by
                                        have := hx
                                        rw [← hzs, List.getElem?_map] at this
                                        obtain ⟨z, e1, e2⟩ := Option.map_eq_some_iff.1 this
                                        exact ⟨z, e1, e2⟩
                                      have hjl : (kk : Int) < (zs.length : Int) := by have := (List.getElem?_eq_some_iff.1 hzj).1; omega
                                      obtain ⟨p, off, xa, xc, cap', hv, hz2, _, c1, _, _, hS, hSf⟩ := xrow_at hxr hzj
                                      subst hv
                                      rw [hzx, hxe] at c1 hS hSf
                                      have dB := (three_cells hBc).2.2
                                      have hpl : p < wr.heap.size := World.block_lt_of_cell? _ _ c1
                                      have hBl : B < wr.heap.size := World.block_lt_of_cell? _ _ dB
                                      have hXl : Xb < wr.heap.size := (Array.getElem?_eq_some_iff.1 hX).1
                                      have HN2 := Lib.hid hN; have HS := Lib.hid hS; have HSF := Lib.hid hSf; have HOT := Lib.hid hot; have HRT := Lib.hid hrt; have HOU := Lib.hid hou; have HX := Lib.hid hX; have HSTEP := Lib.hid hstep; have HBR := Lib.hid hbr
                                      have HTIL := Lib.hid hTil
                                      have hot2 : ∀ w8, Below wr.heap.size wr w8 → (w8.alloc (.cells #[.slice xa u.2.length xc] 34)).ownsRow w.heap.size 34 1 (.slice tb Ti.length td) Ti.length (gs.map encSl) := fun w8 h => (owns_below HOT.out h).alloc _
                                      have hsz8 : ∀ w8, Below wr.heap.size wr w8 → w.heap.size ≤ w8.heap.size := fun w8 h => Nat.le_trans HBR.out.size h.size
                                      clear hN hS hSf hot hrt hou hX hstep cF hf hx hxu hxe hBc hzs hxr hzj hzx hz2 hu hdu hfd hTi hbr hTil
                                      go_wp2_with (first
                                        | (go_at_call 10; go_loud ((with_reducible refine cF2.mono ?_); rintro e w8 ⟨rfl, h⟩; have dB2 := (h.cell (p := ⟨B, 2, none⟩) hBl).trans dB; have dX1 := (h.cell (p := ⟨p, off + kk * 4 + 1, none⟩) hpl).trans c1))
                                        | (at_builtin; go_must (refine wpList_append_own_at _ rfl _ _ 39 rfl w.heap.size 34 i2 _ 1 24 Tryd.underlying39 hi2 hz20 hz21 hz22 rfl (by decide) _ _ _ rfl (hot2 _ h) ⟨w8.heap.size, 0, none⟩ 1 1 [.slice xa u.2.length xc] rfl rfl (cell_one_new w8 _ _) ?e1 ?e4 ?e5 ?e6 ?_)))
                                      case e1 => (intro u hu; rw [List.mem_singleton] at hu; subst hu; rfl)
                                      case e4 => (have := HTIL.out; unfold maxLen; omega)
                                      case e5 => (have := HTIL.out; omega)
                                      case e6 => (first | (have := hsz8 w8 h; omega) | exact hsz8 w8 h | (rw [alloc_size]; exact Nat.le_succ_of_le (hsz8 w8 h)))
                                      intro v' w9 hown hgrow _ hplace
                                      have hN9 := HN2.out.below h
                                      obtain ⟨hN10, hk10, hb10⟩ := hN9.more (hsz8 w8 h) (g := (xa, u.2.length, xc)) (HS.out.below h) (HSF.out.below h) (owns_below HOT.out h) (HRT.out.below h) hown hgrow hplace
                                      rw [← HSTEP.out] at hN10
                                      have hou10 := owns_kept (owns_below HOU.out h) hk10 (fun j e e' => by
                                        obtain ⟨c, hh⟩ := owns_at (owns_below HOU.out h) e
                                        exact owns_not (owns_below HOT.out h) hh (by decide) e')
                                      have hX10 := hk10.obj (below_same h HX.out) (owns_not (owns_below HOT.out h) (below_same h HX.out) (by decide))
                                      have hb11 := (HBR.out.trans (h.mono HBR.out.size)).trans hb10
                                      go_wp2_with fail
                                      have htil := HTIL.out
                                      go_roundg (gk - 1)
                                      case measure => omega
                                      case rel => exact ⟨i + 1, by omega, hN10, hou10, hX10, hb11⟩
                                    · have hi' : i = us3.length - T.length := by omega
                                      have ht1 : tell1 us3 T ⟨2, (us3.length : Int), fl⟩ = Ti := by
                                        unfold tell1
                                        rw [if_neg (show ¬ ((2 : Int) = 1) by decide), if_pos rfl, ← hTi, hi', List.take_of_length_le (by rw [List.length_drop]; exact Nat.le_refl _)]
                                      have htel1 := HTEL.out
                                      rw [ht1] at htel1
                                      have hTl1 : Ti.length ≤ 100000 := by omega
                                      have HN2 := Lib.hid hN
                                      clear hot hrt hou hX hN
                                      go_wp2_with fail
                                      go_roundg gn
                                      case measure => omega
                                      case rel => exact ⟨j + 1, Ti, by omega, by go_num, HN2.out, hTl1, htel1, hbr⟩
                                · obtain ⟨m, hm⟩ : ∃ m : Nat, vn = (m : Int) + 1 := ⟨(vn - 1).toNat, by simp only at h1; omega⟩
                                  simp only at h1 h2
                                  subst hm
                                  have hmT : m < T.length := by omega
                                  obtain ⟨gs, hot, hrt⟩ := HN.out.s.ht
                                  obtain ⟨tp, tq, rfl⟩ := own_some hot (by omega)
                                  have hgl : gs.length = T.length := by have := hot.1; simpa using this
                                  have d4 : wl.cell? ⟨tp, m, none⟩ = some (encSl gs[m]) := by rw [hot.cellAt m (by omega), List.getElem?_map, List.getElem?_eq_getElem (by omega)]; rfl
                                  have f4 : wl.frozen? ⟨tp, m, none⟩ = false := hot.frozenAt m
                                  have hmz : (m : Int) < (T.length : Int) := by omega
                                  simp only [encSl] at d4
                                  clear hot hrt
                                  --F{
                                  go_wp2_with fail
                                  obtain ⟨hN1, hb1⟩ := HN.out.flag (g := (va, vl, vc)) hmT HSL.out HSFL.out hbl.size
                                  have ht1 : tell1 us3 T ⟨3, (m : Int) + 1, fl⟩ = T.set m fl := by
                                    unfold tell1
                                    rw [if_neg (show ¬ ((3 : Int) = 1) by decide), if_neg (show ¬ ((3 : Int) = 2) by decide)]
                                    show List.set T (((m : Int) + 1).toNat - 1) fl = _
                                    rw [show ((m : Int) + 1).toNat - 1 = m by omega]
                                  have htel1 := HTEL.out
                                  rw [ht1] at htel1
                                  have hbf := hbl.trans hb1
                                  go_roundg (gk - 1)
                                  case measure => omega
                                  case rel => exact ⟨j + 1, T.set m fl, by omega, by go_num, hN1, by rw [List.length_set]; exact hTl, htel1, hbf⟩
                                  --F}
                              · obtain rfl : j = vs.length := by omega
                                --F{
                                have hT : us3.map (·.2) = T := by
                                  rw [List.drop_eq_nil_of_le (by rw [← hN.r.1]; exact Nat.le_refl _)] at htel
                                  exact htel
                                subst hT
                                have hF := hN.s
                                obtain ⟨uv, fv, hv, hne⟩ := hF.hv
                                obtain ⟨gs, hot, hrt⟩ := hF.ht
                                obtain ⟨ta, tc, rfl⟩ := owns_val hot
                                have cU := uids_any w.heap.size V uv fv us3 wr hv (by omega)
                                obtain ⟨lv, zs, hBc, hzs, hxr⟩ := hF.hb
                                have hzl : zs.length = b.ls.length := by rw [← hzs, List.length_map]
                                obtain ⟨la, lc, hlv, _⟩ := hxr.1
                                subst hlv
                                have d2 := (three_cells hBc).2.2
                                have hBl : B < wr.heap.size := (Array.getElem?_eq_some_iff.1 hBc).1
                                rw [List.length_map]
                                have HF := Lib.hid hF
                                clear hv hne hot hrt hBc hxr hzs htel hN hF hTl
                                go_upto_region 50 with (go_at_call 9; go_loud ((with_reducible refine cU.mono ?_); rintro e w7 ⟨uw, rfl, hou, h7⟩))
                                obtain ⟨ua, uc, rfl⟩ := owns_val hou
                                have hF7 := HF.out.below h7
                                have hb7 := hbr.trans (h7.mono hbr.size)
                                have d27 := (h7.cell (p := ⟨B, 2, none⟩) hBl).trans d2
                                have hou7 := owns_less hou hbr.size
                                clear hou h7 HF cU d2 hBl hbr
                                go_cut [223] (fun s223 wx => s223 = .bool false ∧ wx = w7)
                                case first =>
                                  cases al with
                                  | true =>
                                    have hmn := HMNY.out rfl
                                    rw [hzl, ← hmn] at d27
                                    clear hmn
                                    go_wp2_with fail
                                    go_meet
                                    exact ⟨rfl, rfl⟩
                                  | false =>
                                    go_wp2_with fail
                                    go_meet
                                    exact ⟨rfl, rfl⟩
                                case rest =>
                                  obtain ⟨rfl, hwx⟩ := hcut
                                  rw [hwx]
                                  clear hwx d27 hzl
                                  go_wp2_with fail
                                  go_loopg [22] us3.length (fun g s22 wr => ∃ (i : Nat), i + g = us3.length ∧ s22 = .int .i64 (i : Int) ∧ FolS w.heap.size B V b us3 (us3.map (·.2)) wr (.slice ta (us3.map (·.2)).length tc) ∧ wr.ownsRow w.heap.size 3 1 (.slice ua us3.length uc) us3.length ((us3.map (·.1)).map (Value.int .i64)) ∧ Below w.heap.size w wr)
                                  case atStart => exact ⟨0, by omega, rfl, hF7, hou7, hb7⟩
                                  case round =>
                                    as_aux_lemma =>
                                    clear hF7 hou7 hb7
                                    obtain ⟨i, hi, rfl, hF, hou, hbr⟩ := hrel
                                    by_cases hlti : i < us3.length
                                    · obtain ⟨u, hu⟩ : ∃ u, us3[i]? = some u := ⟨us3[i], List.getElem?_eq_getElem hlti⟩
                                      have hum := List.mem_of_getElem? hu
                                      have hlow := HSE.out.low u hum
                                      obtain ⟨pu, qu, eu⟩ := own_some hou (by omega)
                                      injection eu with eu1 _ eu3
                                      subst eu1 eu3
                                      have hcu : wr.cell? ⟨pu, i, none⟩ = some (.int .i64 u.1) := by
                                        rw [hou.cellAt i (by omega), List.getElem?_map, List.getElem?_map, hu]; rfl
                                      have cF := find_any_box B b u.1 wr hF.hb.at (rising_of hr) (by omega) (by omega) (by omega)
                                      have hiz : (i : Int) < (us3.length : Int) := by omega
                                      have HF := Lib.hid hF; have HOU := Lib.hid hou
                                      cases hf : findB b.ls u.1 with
                                      | none =>
                                        have hal : al = false := by
                                          cases al with
                                          | false => rfl
                                          | true =>
                                            have := HFND.out rfl u hum
                                            unfold foundB at this
                                            rw [hf] at this
                                            cases this
                                        subst hal
                                        rw [hf] at cF
                                        have cF2 : Calls Tryd.prog 10 #[.pointer (some ⟨B, 0, none⟩), .int .i64 u.1] wr fun e w' => ∃ j : Nat, e = .returned (.tuple #[.int .i64 (j : Int), .bool false]) ∧ Below wr.heap.size wr w' := cF.mono (by rintro e w' ⟨j, h, _, h2⟩; exact ⟨j, h, h2⟩)
                                        clear cF hf hF hou hu
                                        go_wp2_with (go_at_call 10; go_loud ((with_reducible refine cF2.mono ?_); rintro e w1 ⟨jj, rfl, h⟩))
                                        go_quiet (fail)
                                        go_wp2_with fail
                                        go_roundg (gk - 1)
                                        case measure => omega
                                        case rel => exact ⟨i + 1, by omega, by go_num, (HF.out.below h).below (below_drewN _ _), owns_below (owns_below HOU.out h) (below_drewN _ _), (hbr.trans (h.mono hbr.size)).trans ((below_drewN _ _).mono (Nat.le_trans hbr.size h.size))⟩
                                      | some kk =>
                                        obtain ⟨x, hx, hxu⟩ := findB_some hf
                                        rw [hf] at cF
                                        have cF2 : Calls Tryd.prog 10 #[.pointer (some ⟨B, 0, none⟩), .int .i64 u.1] wr fun e w' => e = .returned (.tuple #[.int .i64 (kk : Int), .bool true]) ∧ Below wr.heap.size wr w' := cF.mono (by rintro e w' ⟨j, h, h1, h2⟩; rw [h1.out kk rfl] at h; exact ⟨h, h2⟩)
                                        have hxe := HFLG.out u hum kk x hf hx
                                        have hul := HSH.out u hum
                                        obtain ⟨lv, zs, hBc, hzs, hxr⟩ := hF.hb
                                        obtain ⟨z, hzj, hzx⟩ : ∃ z, zs[kk]? = some z ∧ z.1 = x := by
                                          have := hx
                                          rw [← hzs, List.getElem?_map] at this
                                          obtain ⟨z, e1, e2⟩ := Option.map_eq_some_iff.1 this
                                          exact ⟨z, e1, e2⟩
                                        have hjl : (kk : Int) < (zs.length : Int) := by have := (List.getElem?_eq_some_iff.1 hzj).1; omega
                                        obtain ⟨p, off, xa, xc, cap', hv, hz2, _, c1, _, _, hS, hSf⟩ := xrow_at hxr hzj
                                        subst hv
                                        rw [hzx, hxe] at c1 hS
                                        obtain ⟨gs, hot, hrt⟩ := hF.ht
                                        obtain ⟨⟨ga, gn, gc⟩, hg, hgS, hgSf⟩ := hrt i u.2 (by rw [List.getElem?_map, hu]; rfl)
                                        obtain rfl : gn = u.2.length := by
                                          obtain ⟨a', c', e, _⟩ := hgS
                                          exact (Value.slice.inj e).2.1
                                        obtain ⟨pt, qt, et⟩ := own_some hot (by rw [List.length_map]; omega)
                                        injection et with et1 _ et3
                                        subst et1 et3
                                        have hct : wr.cell? ⟨pt, i, none⟩ = some (.slice ga u.2.length gc) := by
                                          rw [hot.cellAt i (by rw [List.length_map]; omega), List.getElem?_map, hg]; rfl
                                        have dB := (three_cells hBc).2.2
                                        have hpl : p < wr.heap.size := World.block_lt_of_cell? _ _ c1
                                        have hptl : pt < wr.heap.size := World.block_lt_of_cell? _ _ hct
                                        have hBl : B < wr.heap.size := World.block_lt_of_cell? _ _ dB
                                        have HS := Lib.hid hS; have HGS := Lib.hid hgS
                                        have cE : ∀ w1, Below wr.heap.size wr w1 → ∀ n, Calls Tryd.prog 11 #[.slice xa u.2.length xc, .slice ga u.2.length gc] (w1.drewN n) fun e w' => e = .returned (.bool true) ∧ ∃ m, w' = (w1.drewN n).drewN m := fun w1 h n => by
                                          have := equal_quiet (.slice xa u.2.length xc) (.slice ga u.2.length gc) u.2 u.2 (w1.drewN n) ((HS.out.below h).below (below_drewN _ _)) ((HGS.out.below h).below (below_drewN _ _)) hul hul
                                          rw [decide_eq_true rfl] at this
                                          exact this
                                        clear cF hf hF hou hu hx hxu hxe hBc hzs hxr hzj hzx hz2 hS hSf hot hrt hg hgS hgSf
                                        go_wp2_with (go_at_call 10; go_loud ((with_reducible refine cF2.mono ?_); rintro e w1 ⟨rfl, h⟩; have dB2 := (h.cell (p := ⟨B, 2, none⟩) hBl).trans dB; have dX1 := (h.cell (p := ⟨p, off + kk * 4 + 1, none⟩) hpl).trans c1; have dG := (h.cell (p := ⟨pt, i, none⟩) hptl).trans hct))
                                        go_quiet ((go_at_call 11; exact Calls.quiet_of (cE _ h _)))
                                        go_wp2_with fail
                                        go_roundg (gk - 1)
                                        case measure => omega
                                        case rel => exact ⟨i + 1, by omega, by go_num, (HF.out.below h).below (below_drewN _ _), owns_below (owns_below HOU.out h) (below_drewN _ _), (hbr.trans (h.mono hbr.size)).trans ((below_drewN _ _).mono (Nat.le_trans hbr.size h.size))⟩
                                    · obtain ⟨uv, fv, hv, hne⟩ := hF.hv
                                      obtain ⟨lv, zs, hBc, hzs, hxr⟩ := hF.hb
                                      obtain ⟨la, lc, hlv, _⟩ := hxr.1
                                      subst hlv
                                      obtain ⟨d0, d1, d2⟩ := three_cells hBc
                                      have hur : ∀ u ∈ us3, -9223372036854775808 ≤ u.1 ∧ u.1 ≤ 9223372036854775807 := fun u hu => by have := HSE.out.low u hu; omega
                                      have cL := look_any w.heap.size V b (.slice la zs.length lc) uv fv zs us3 al wr hv hNV hbr.size hzs hxr (rising_of hr) HFL.out HSH.out (by omega) hur (by omega)
                                      have HF := Lib.hid hF; have HV := Lib.hid hv; have HNE := Lib.hid hne
                                      clear hBc hzs hxr hF hv hne hur hou
                                      have hlast : ∀ (w8 : World) (ov uv' fv' : Value) (vs2 : NV), w8.ownsRow wr.heap.size 45 3 ov vs2.length (cellsN vs2) → ReadsN w.heap.size w8 vs2 (lookF b.ls us3 al).1 → ViewS w.heap.size w8 V uv' fv' (lookF b.ls us3 al).2 → Kept (fun j => j = V ∨ uv.ownBlock = some j ∨ fv.ownBlock = some j) wr w8 → (fv'.ownBlock = fv.ownBlock ∨ ∀ j, fv'.ownBlock = some j → wr.heap.size ≤ j) →
                                          ∃ a c, ov = .slice a 0 c ∧ FolS w.heap.size B V b us3 (us3.map (·.2)) w8 (.slice ta (us3.map (·.2)).length tc) ∧ Below w.heap.size w w8 := by
                                        intro w8 ov uv' fv' vs2 ho hrn hv' hk hf
                                        rw [HAGN.out] at hrn hv'
                                        obtain ⟨a, c, rfl⟩ := owns_val ho
                                        have h0 : vs2.length = 0 := hrn.1
                                        rw [h0]
                                        refine ⟨a, c, rfl, HF.out.look hNV HV.out HNE.out hk hv' hf, hbr.trans (hk.below hbr.size ?_)⟩
                                        obtain ⟨gs, g1, g2, g3, g4⟩ := HV.out
                                        rintro j (e | e | e)
                                        · omega
                                        · exact (g2.lt j e).1
                                        · exact (g3.lt j e).1
                                      have HLAST := Lib.hid hlast
                                      clear hlast
                                      go_wp2_with (go_at_call 8; go_loud ((with_reducible refine cL.mono ?_); rintro e w8 ⟨ov, vs2, uv', fv', rfl, hov, hrn, hv', hk8, huo, hfo⟩; obtain ⟨a8, c8, rfl, hF8, hb8⟩ := HLAST.out w8 ov uv' fv' vs2 hov hrn hv' hk8 hfo))
                                      go_roundg g'
                                      case measure => omega
                                      case rel => exact ⟨k + 1, b, us3, by omega, by go_num, by rw [List.length_map] at hF8; exact hF8, hr, HSE.out, by omega, HSH.out, hb8⟩
                                --F}
                  · go_wp2_with fail
                    go_ret
                    exact ⟨rfl, hbr⟩
end Go.Proofs.YteabnpahhkicaaaDoor
