/- The walk over letterboxkeep.SetsBack: it returns true, whatever it is given. Conditions: strconv's table of powers and its two errors, and bytealg.MaxLen, lie as the program's text lays them. -/
import Derived.Test.YtciejgelfbjmgaaDoorSeqD
import Derived.Test.YtciejgelfbjmgaaDoorSeqF
import Derived.Test.YtciejgelfbjmgaaDoorSeqG
import Derived.Test.YtciejgelfbjmgaaDoorPickK
namespace Go.Proofs.YtciejgelfbjmgaaDoor
open Go.RowKit Go.Shelf Go.Sort
set_option linter.unusedSimpArgs false

theorem int_infoS : (Tryd.prog.info? 3).map (fun i => (i.zero, i.size, i.bytes)) = some (some (.int .i64 0), 1, 8) := by kernel_rfl
theorem own_empty (w : World) (B : Nat) (hB : B ≤ w.heap.size) : (w.alloc (.cells #[] 33)).ownsRow B 33 2 (.slice (some ⟨w.heap.size, 0, none⟩) 0 0) ([] : List Rg).length (rgCells []) :=
  ⟨rfl, Or.inr ⟨w.heap.size, 0, #[], rfl, hB, World.heap_alloc_new w _, Nat.le_refl _, Nat.zero_le _, rfl, rfl⟩⟩
theorem riseL_eq (zs : List Int) : Lib.compact (zs.mergeSort fun x y => decide (x ≤ y)) = riseL zs := rfl
/-- what SetsBack makes of a number -/
def risingF (x : Int) : Int := 1 + (pickK x 90 : Int)
theorem rising_val (x : Int) : 1 ≤ risingF x ∧ risingF x ≤ 90 := by
  have := pickK_lt x (show 0 < 90 by decide)
  unfold risingF
  omega
set_option maxRecDepth 100000 in
set_option maxHeartbeats 16000000 in
theorem setsBack_any (lv mv nv : Value) (l m : List Rg) (nums : List Int) (n gr : Int) (w : World) (hlr : RgRow w lv l) (hmr : RgRow w mv m) (hnr : IRow w nv nums) (hnb : ∀ x ∈ nums, -9223372036854775808 ≤ x ∧ x ≤ 9223372036854775807) (hG : NumG w) :
    Calls Tryd.prog 3 #[lv, mv, nv, .int .i64 n, .int .i64 gr] w fun e w' => e = .returned (.bool true) ∧ Below w.heap.size w w' := by
  have y := Below.refl w.heap.size w
  have HL := Lib.hid hlr
  have HM := Lib.hid hmr
  have HNR := Lib.hid hnr
  obtain ⟨la, lc, rfl, -, ⟨hlm, -⟩, -⟩ := hlr
  obtain ⟨ma, mc, rfl, -, ⟨hmm, -⟩, -⟩ := hmr
  obtain ⟨na, nc, rfl, -, hnm, hncell⟩ := hnr
  have HNC := Lib.hid hncell
  have HNB := Lib.hid hnb
  clear hnb hncell hlm hmm hnm
  by_cases hB : (15 : Int) < (l.length : Int)
  · go_enter Tryd.func3, Tryd.ntmps3
    go_wp2_with fail
    go_ret
    exact ⟨rfl, y⟩
  by_cases hC : (15 : Int) < (m.length : Int)
  · go_enter Tryd.func3, Tryd.ntmps3
    go_wp2_with fail
    go_ret
    exact ⟨rfl, y⟩
  by_cases hD : (60 : Int) < (nums.length : Int)
  · go_enter Tryd.func3, Tryd.ntmps3
    go_wp2_with fail
    go_ret
    exact ⟨rfl, y⟩
  have hl1 : l.length ≤ 15 := by omega
  have hm1 : m.length ≤ 15 := by omega
  have hn1 : nums.length ≤ 60 := by omega
  have HG := Lib.hid (fun W (h : Below w.heap.size w W) => hG.below h)
  have cN := numbered_any w hG
  have cPr := fun W (h : Below w.heap.size w W) => printS_any _ l W (HL.out.below h) (HG.out W h).str
  unfold PrintR at cPr
  clear hG
  have cHL : hasS l n gr = true ∨ hasS l n gr = false := by cases hasS l n gr <;> simp
  cases hrs : rightS l with
  | true =>
    have hps := parse_print hrs
    have hpl := printS_len hrs
    simp only [hrs, if_true] at cPr
    generalize printS l = PS at cPr hps hpl
    have cPa : ∀ W (_ : Below w.heap.size w W), Calls Tryd.prog 6 #[.string ⟨PS.toArray⟩] W fun e w' => ∃ a c, e = .returned (.tuple #[.slice a l.length c, .nilIface]) ∧ RgRow w' (.slice a l.length c) l ∧ Below W.heap.size W w' := fun W h => (parse_any PS W (by omega) (HG.out W h).str (HG.out W h).max).mono fun e w' h => by
      unfold ParR at h
      rw [hps] at h
      obtain ⟨v, h1, h2, h3, h4⟩ := h
      obtain ⟨a, c, rfl⟩ := owned_val h2
      exact ⟨a, c, h1, rg_of_owns h2, h4⟩
    have cE := fun u W (h : RgRow W u l) (h2 : Below w.heap.size w W) => equalR_any u _ l W h (HL.out.below h2)
    clear hps hpl hrs
    go_enter Tryd.func3, Tryd.ntmps3
    go_upto_region 12 with (first
      | (go_at_call 4; go_loud (((with_reducible refine cN.mono ?_); rintro e x1 ⟨rfl, z1⟩; have cPr1 := cPr x1 z1)))
      | (go_at_call 5; go_loud (((with_reducible refine cPr1.mono ?_); rintro e x2 ⟨rfl, h2⟩; have z2 := z1.trans (h2.mono z1.size); have cPa1 := cPa x2 z2)))
      | (go_at_call 6; go_loud (((with_reducible refine cPa1.mono ?_); rintro e x3 ⟨a, c, rfl, hr, h3⟩; have z3 := z2.trans (h3.mono z2.size); have cE1 := cE _ x3 hr z3)))
      | (go_at_call 7; go_loud (((with_reducible refine cE1.mono ?_); rintro e wp ⟨rfl, h4⟩; have yp := z3.trans (h4.mono z3.size)))))
    clear cN cPr cPr1 cPa cPa1 cE cE1 hr z1 z2 z3 h2 h3 h4
    have ya := yp.alloc yp.size (.cells #[] 33)
    have HO0 := Lib.hid (own_empty wp w.heap.size yp.size)
    have HLa := Lib.hid (HL.out.below ya)
    have HYA := Lib.hid ya
    clear ya
    go_wp2_with (at_builtin; go_must (refine wpList_appR rfl _ _ 22 rfl 33 Tryd.underlying22 rng_info rfl w.heap.size (.slice (some ⟨wp.heap.size, 0, none⟩) 0 0) [] _ rfl HO0.out (.slice la l.length lc) l rfl HLa.out ?a1 (by decide) ?a2 ?_))
    case a1 => simp only [List.length_nil]; omega
    case a2 => exact HYA.out.size
    intro v1 w1 o1 g1
    have y1 := HYA.out.grown g1 HYA.out.size (fun k e => (HO0.out.lt k e).1)
    have HMa := Lib.hid (HM.out.below y1)
    have HO1 := Lib.hid o1
    clear o1 g1
    go_wp2_with (at_builtin; go_must (refine wpList_appR rfl _ _ 22 rfl 33 Tryd.underlying22 rng_info rfl w.heap.size v1 l _ rfl HO1.out (.slice ma m.length mc) m rfl HMa.out ?a3 (by decide) ?a4 ?_))
    case a3 => omega
    case a4 => exact y1.size
    intro v2 w2 o2 g2
    have y2 := y1.grown g2 y1.size (fun k e => (HO1.out.lt k e).1)
    have cB := hasS_any v2 (l ++ m) n gr w2 (rg_of_owns (B := w.heap.size) (by rw [List.length_append]; exact o2))
    rw [has_append] at cB
    have cL := fun W (h : Below w.heap.size w W) => hasS_any _ l n gr W (HL.out.below h)
    have cM := fun W (h : Below w.heap.size w W) => hasS_any _ m n gr W (HM.out.below h)
    clear o2 g2 HO0 HLa HYA HMa HO1
    go_upto_region 15 with (first
      | (go_at_call 9; (with_reducible refine cB.mono ?_); rintro e w3 ⟨rfl, h3⟩; have y3 := y2.trans (h3.mono y2.size); have cL1 := cL w3 y3; clear cB)
      | (go_at_call 9; (with_reducible refine cL1.mono ?_); rintro e w4 ⟨rfl, h4⟩; have y4 := y3.trans (h4.mono y3.size); have cM1 := cM w4 y4; clear cL1)
      | (go_at_call 9; (with_reducible refine cM1.mono ?_); rintro e w5 ⟨rfl, h5⟩; have y5 := y4.trans (h5.mono y4.size); clear cM1))
    all_goals (
      clear cL cM
      first | have yq := y5 | have yq := y4
      go_wp2_with fail
      go_loopg [16, 17] nums.length (fun g s16 s17 wr => ∃ (k : Nat) (ov : Value), k + g = nums.length ∧ s17 = .int .i64 (k : Int) ∧ ov = s16 ∧ wr.ownsRow w.heap.size 3 1 ov k (((nums.take k).map risingF).map (Value.int .i64)) ∧ Below w.heap.size w wr)
      case atStart => exact ⟨0, _, by omega, rfl, rfl, World.ownsRow_nil _ _ _ _, yq⟩
      case round =>
        clear yq
        obtain ⟨k, ov, hk, rfl, rfl, hown, hbr⟩ := hrel
        by_cases hlt : k < nums.length
        · obtain ⟨g', rfl⟩ : ∃ g', gk = g' + 1 := ⟨gk - 1, by omega⟩
          obtain ⟨x, hx⟩ : ∃ x, nums[k]? = some x := ⟨nums[k], List.getElem?_eq_getElem hlt⟩
          have htk : nums.take (k + 1) = nums.take k ++ [x] := by rw [List.take_add_one, hx]; rfl
          obtain ⟨b, off, rfl, hb, c0⟩ := HNC.out k x hx
          have d0 := (hbr.cell (p := ⟨b, off + k, none⟩) hb).trans c0
          obtain ⟨n0, n9⟩ := HNB.out x (List.mem_of_getElem? hx)
          have cK : Calls Tryd.prog 10 #[.int .i64 x, .int .i64 90] wr fun e w' => e = .returned (.int .i64 (pickK x 90 : Int)) ∧ wr = w' := pickK_any x 90 wr (by decide) (by decide) n0 n9
          have hpk := pickK_lt x (show 0 < 90 by decide)
          have hltz : (k : Int) < (nums.length : Int) := by omega
          have HF : Hid (risingF x = 1 + (pickK x 90 : Int)) := Lib.hid rfl
          have HTK := Lib.hid htk
          have HO := Lib.hid hown
          clear c0 hx htk n0 n9 hown
          generalize pickK x 90 = pk at cK hpk HF
          go_wp2_with (first
            | (go_at_call 10; go_loud (((with_reducible refine cK.mono ?_); rintro e w0 ⟨rfl, rfl⟩)))
            | (at_builtin; go_must (refine wpList_app1 rfl _ _ 23 rfl 3 Tryd.underlying23 int_infoS rfl w.heap.size ov _ _ _ rfl HO.out _ rfl rfl ?b1 (by decide) ?b2 ?_)))
          case b1 => omega
          case b2 => exact hbr.size
          intro v' w8 o8 g8 hv8
          have y8 := below_app hbr hbr.size HO.out g8
          have o9 : w8.ownsRow w.heap.size 3 1 v' (k + 1) (((nums.take (k + 1)).map risingF).map (Value.int .i64)) := by
            have e : ((nums.take (k + 1)).map risingF).map (Value.int .i64) = ((nums.take k).map risingF).map (Value.int .i64) ++ [.int .i64 (1 + (pk : Int))] := by
              rw [HTK.out, List.map_append, List.map_append]
              show _ ++ [Value.int .i64 (risingF x)] = _
              rw [HF.out]
            rw [e]
            simpa [List.map_map, List.map_take] using o8
          have HO9 := Lib.hid o9
          clear o8 o9 g8
          go_wp2_with fail
          go_roundg g'
          case measure => omega
          case rel => exact ⟨k + 1, _, by omega, by go_num, rfl, HO9.out, y8⟩
        · obtain rfl : k = nums.length := by omega
          rw [List.take_length] at hown
          obtain ⟨zs, hzs⟩ : ∃ zs, nums.map risingF = zs := ⟨_, rfl⟩
          rw [hzs] at hown
          have hzl : nums.length = zs.length := by rw [← hzs, List.length_map]
          have hz1 : ∀ x ∈ zs, 1 ≤ x ∧ x ≤ 9223372036854775807 := by
            rw [← hzs]
            intro x hx
            obtain ⟨q, _, rfl⟩ := List.mem_map.1 hx
            have := rising_val q
            omega
          obtain ⟨r1, r2, r3⟩ := rise_rises (fun x hx => (hz1 x hx).1)
          rw [hzl] at hown
          have cSo := sortI_any ov zs w.heap.size wr hown (by omega)
          have hsl : (zs.mergeSort fun x y => decide (x ≤ y)).length = zs.length := List.length_mergeSort ..
          have cCo := fun W (h : W.ownsRow w.heap.size 3 1 ov zs.length ((zs.mergeSort fun x y => decide (x ≤ y)).map (Value.int .i64))) => compI_any ov (zs.mergeSort fun x y => decide (x ≤ y)) w.heap.size W (by rw [hsl]; exact h) (by omega) (by rw [riseL_eq, hsl]; exact r3)
          rw [riseL_eq] at cCo
          have hlow := fun k e => (hown.lt k e).1
          have cOf := fun rv W (h : IRow W rv (riseL zs)) => of_any rv (riseL zs) W h (by omega) (fun n hn => hz1 n (r2 n hn))
          have HB := Lib.hid hbr
          have HLW := Lib.hid (fun k => of_law r1 (k : Int) 91)
          have HRS := Lib.hid r1
          have hL60 : (riseL zs).length ≤ 60 := by omega
          clear hown hzs hbr hk hz1 r1 r2 r3 hsl hzl
          go_upto_region 23 with (first
            | (go_at_call 11; go_loud (((with_reducible refine cSo.mono ?_); rintro e q1 ⟨rfl, o1, g1⟩; have y6 := HB.out.grown g1 HB.out.size hlow; have cCo1 := cCo q1 o1)))
            | (go_at_call 12; go_loud (((with_reducible refine cCo1.mono ?_); rintro e q2 ⟨rv, rfl, hri, g2⟩; have y7 := y6.grown g2 y6.size hlow; have cOf1 := cOf rv q2 hri)))
            | (go_at_call 13; go_loud (((with_reducible refine cOf1.mono ?_); rintro e q3 ⟨ofv, rfl, hof, h8⟩; have y8 := y7.trans (h8.mono y7.size); have hri3 := hri.below h8))))
          clear cSo cCo cCo1 cOf cOf1 g1 g2 h8 o1 hri
          generalize riseL zs = L at hof hri3 HLW HRS hL60 ⊢
          have hrf := rg_of_owns hof
          obtain ⟨oa, oc, rfl⟩ := owned_val hof
          have HRI := Lib.hid hri3
          obtain ⟨ra, rc, rfl, -⟩ := hri3
          have HRF := Lib.hid hrf
          have hle : ((ofS L).length : Int) ≤ (L.length : Int) := by have := (HLW.out 0).2; omega
          clear hof hrf
          go_wp2_with fail
          go_loopg [19, 20, 21] 92 (fun g s19 s20 s21 wr => ∃ k : Nat, k + g = 92 ∧ s19 = .int .i64 (k : Int) ∧ Below q3.heap.size q3 wr)
          case atStart => exact ⟨0, by omega, rfl, Below.refl _ _⟩
          case round =>
            obtain ⟨k, hk, rfl, hbq⟩ := hrel
            by_cases hlt : k < 92
            · obtain ⟨g', rfl⟩ : ∃ g', gk = g' + 1 := ⟨gk - 1, by omega⟩
              have cSe := searchI_any _ L (k : Int) _ (HRI.out.below hbq) (by omega) HRS.out.1
              have cHa := fun W (h : Below q3.heap.size q3 W) => hasS_any _ (ofS L) (k : Int) 91 W (HRF.out.below h)
              rw [(HLW.out k).1] at cHa
              have hkz : (k : Int) ≤ 91 := by omega
              generalize decide ((k : Int) ∈ L) = D at cSe cHa
              go_wp2_with (first
                | (go_at_call 14; go_loud (((with_reducible refine cSe.mono ?_); rintro e x1 ⟨p, rfl, h1⟩; have z1 := hbq.trans (h1.mono hbq.size); have cHa1 := cHa x1 z1)))
                | (go_at_call 9; go_loud (((with_reducible refine cHa1.mono ?_); rintro e x2 ⟨rfl, h2⟩; have z2 := z1.trans (h2.mono z1.size)))))
              go_roundg g'
              case measure => omega
              case rel => exact ⟨k + 1, by omega, by go_num, z2⟩
            · have hkz : ¬ (k : Int) ≤ 91 := by omega
              go_wp2_with fail
              go_ret
              exact ⟨rfl, y8.trans (hbq.mono y8.size)⟩)
  | false =>
    simp only [hrs] at cPr
    have cR := fun W (h : Below w.heap.size w W) => rightS_any _ l W (HL.out.below h)
    rw [hrs] at cR
    clear hrs
    go_enter Tryd.func3, Tryd.ntmps3
    go_upto_region 12 with (first
      | (go_at_call 4; go_loud (((with_reducible refine cN.mono ?_); rintro e x1 ⟨rfl, z1⟩; have cPr1 := cPr x1 z1)))
      | (go_at_call 5; go_loud (((with_reducible refine cPr1.mono ?_); rintro e x2 ⟨rfl, h2⟩; have z2 := z1.trans (h2.mono z1.size); have cR1 := cR x2 z2)))
      | (go_at_call 8; go_loud (((with_reducible refine cR1.mono ?_); rintro e wp ⟨rfl, h4⟩; have yp := z2.trans (h4.mono z2.size)))))
    clear cN cPr cPr1 cR cR1 z1 z2 h2 h4
    have ya := yp.alloc yp.size (.cells #[] 33)
    have HO0 := Lib.hid (own_empty wp w.heap.size yp.size)
    have HLa := Lib.hid (HL.out.below ya)
    have HYA := Lib.hid ya
    clear ya
    go_wp2_with (at_builtin; go_must (refine wpList_appR rfl _ _ 22 rfl 33 Tryd.underlying22 rng_info rfl w.heap.size (.slice (some ⟨wp.heap.size, 0, none⟩) 0 0) [] _ rfl HO0.out (.slice la l.length lc) l rfl HLa.out ?a1 (by decide) ?a2 ?_))
    case a1 => simp only [List.length_nil]; omega
    case a2 => exact HYA.out.size
    intro v1 w1 o1 g1
    have y1 := HYA.out.grown g1 HYA.out.size (fun k e => (HO0.out.lt k e).1)
    have HMa := Lib.hid (HM.out.below y1)
    have HO1 := Lib.hid o1
    clear o1 g1
    go_wp2_with (at_builtin; go_must (refine wpList_appR rfl _ _ 22 rfl 33 Tryd.underlying22 rng_info rfl w.heap.size v1 l _ rfl HO1.out (.slice ma m.length mc) m rfl HMa.out ?a3 (by decide) ?a4 ?_))
    case a3 => omega
    case a4 => exact y1.size
    intro v2 w2 o2 g2
    have y2 := y1.grown g2 y1.size (fun k e => (HO1.out.lt k e).1)
    have cB := hasS_any v2 (l ++ m) n gr w2 (rg_of_owns (B := w.heap.size) (by rw [List.length_append]; exact o2))
    rw [has_append] at cB
    have cL := fun W (h : Below w.heap.size w W) => hasS_any _ l n gr W (HL.out.below h)
    have cM := fun W (h : Below w.heap.size w W) => hasS_any _ m n gr W (HM.out.below h)
    clear o2 g2 HO0 HLa HYA HMa HO1
    go_upto_region 15 with (first
      | (go_at_call 9; (with_reducible refine cB.mono ?_); rintro e w3 ⟨rfl, h3⟩; have y3 := y2.trans (h3.mono y2.size); have cL1 := cL w3 y3; clear cB)
      | (go_at_call 9; (with_reducible refine cL1.mono ?_); rintro e w4 ⟨rfl, h4⟩; have y4 := y3.trans (h4.mono y3.size); have cM1 := cM w4 y4; clear cL1)
      | (go_at_call 9; (with_reducible refine cM1.mono ?_); rintro e w5 ⟨rfl, h5⟩; have y5 := y4.trans (h5.mono y4.size); clear cM1))
    all_goals (
      clear cL cM
      first | have yq := y5 | have yq := y4
      go_wp2_with fail
      go_loopg [16, 17] nums.length (fun g s16 s17 wr => ∃ (k : Nat) (ov : Value), k + g = nums.length ∧ s17 = .int .i64 (k : Int) ∧ ov = s16 ∧ wr.ownsRow w.heap.size 3 1 ov k (((nums.take k).map risingF).map (Value.int .i64)) ∧ Below w.heap.size w wr)
      case atStart => exact ⟨0, _, by omega, rfl, rfl, World.ownsRow_nil _ _ _ _, yq⟩
      case round =>
        clear yq
        obtain ⟨k, ov, hk, rfl, rfl, hown, hbr⟩ := hrel
        by_cases hlt : k < nums.length
        · obtain ⟨g', rfl⟩ : ∃ g', gk = g' + 1 := ⟨gk - 1, by omega⟩
          obtain ⟨x, hx⟩ : ∃ x, nums[k]? = some x := ⟨nums[k], List.getElem?_eq_getElem hlt⟩
          have htk : nums.take (k + 1) = nums.take k ++ [x] := by rw [List.take_add_one, hx]; rfl
          obtain ⟨b, off, rfl, hb, c0⟩ := HNC.out k x hx
          have d0 := (hbr.cell (p := ⟨b, off + k, none⟩) hb).trans c0
          obtain ⟨n0, n9⟩ := HNB.out x (List.mem_of_getElem? hx)
          have cK : Calls Tryd.prog 10 #[.int .i64 x, .int .i64 90] wr fun e w' => e = .returned (.int .i64 (pickK x 90 : Int)) ∧ wr = w' := pickK_any x 90 wr (by decide) (by decide) n0 n9
          have hpk := pickK_lt x (show 0 < 90 by decide)
          have hltz : (k : Int) < (nums.length : Int) := by omega
          have HF : Hid (risingF x = 1 + (pickK x 90 : Int)) := Lib.hid rfl
          have HTK := Lib.hid htk
          have HO := Lib.hid hown
          clear c0 hx htk n0 n9 hown
          generalize pickK x 90 = pk at cK hpk HF
          go_wp2_with (first
            | (go_at_call 10; go_loud (((with_reducible refine cK.mono ?_); rintro e w0 ⟨rfl, rfl⟩)))
            | (at_builtin; go_must (refine wpList_app1 rfl _ _ 23 rfl 3 Tryd.underlying23 int_infoS rfl w.heap.size ov _ _ _ rfl HO.out _ rfl rfl ?b1 (by decide) ?b2 ?_)))
          case b1 => omega
          case b2 => exact hbr.size
          intro v' w8 o8 g8 hv8
          have y8 := below_app hbr hbr.size HO.out g8
          have o9 : w8.ownsRow w.heap.size 3 1 v' (k + 1) (((nums.take (k + 1)).map risingF).map (Value.int .i64)) := by
            have e : ((nums.take (k + 1)).map risingF).map (Value.int .i64) = ((nums.take k).map risingF).map (Value.int .i64) ++ [.int .i64 (1 + (pk : Int))] := by
              rw [HTK.out, List.map_append, List.map_append]
              show _ ++ [Value.int .i64 (risingF x)] = _
              rw [HF.out]
            rw [e]
            simpa [List.map_map, List.map_take] using o8
          have HO9 := Lib.hid o9
          clear o8 o9 g8
          go_wp2_with fail
          go_roundg g'
          case measure => omega
          case rel => exact ⟨k + 1, _, by omega, by go_num, rfl, HO9.out, y8⟩
        · obtain rfl : k = nums.length := by omega
          rw [List.take_length] at hown
          obtain ⟨zs, hzs⟩ : ∃ zs, nums.map risingF = zs := ⟨_, rfl⟩
          rw [hzs] at hown
          have hzl : nums.length = zs.length := by rw [← hzs, List.length_map]
          have hz1 : ∀ x ∈ zs, 1 ≤ x ∧ x ≤ 9223372036854775807 := by
            rw [← hzs]
            intro x hx
            obtain ⟨q, _, rfl⟩ := List.mem_map.1 hx
            have := rising_val q
            omega
          obtain ⟨r1, r2, r3⟩ := rise_rises (fun x hx => (hz1 x hx).1)
          rw [hzl] at hown
          have cSo := sortI_any ov zs w.heap.size wr hown (by omega)
          have hsl : (zs.mergeSort fun x y => decide (x ≤ y)).length = zs.length := List.length_mergeSort ..
          have cCo := fun W (h : W.ownsRow w.heap.size 3 1 ov zs.length ((zs.mergeSort fun x y => decide (x ≤ y)).map (Value.int .i64))) => compI_any ov (zs.mergeSort fun x y => decide (x ≤ y)) w.heap.size W (by rw [hsl]; exact h) (by omega) (by rw [riseL_eq, hsl]; exact r3)
          rw [riseL_eq] at cCo
          have hlow := fun k e => (hown.lt k e).1
          have cOf := fun rv W (h : IRow W rv (riseL zs)) => of_any rv (riseL zs) W h (by omega) (fun n hn => hz1 n (r2 n hn))
          have HB := Lib.hid hbr
          have HLW := Lib.hid (fun k => of_law r1 (k : Int) 91)
          have HRS := Lib.hid r1
          have hL60 : (riseL zs).length ≤ 60 := by omega
          clear hown hzs hbr hk hz1 r1 r2 r3 hsl hzl
          go_upto_region 23 with (first
            | (go_at_call 11; go_loud (((with_reducible refine cSo.mono ?_); rintro e q1 ⟨rfl, o1, g1⟩; have y6 := HB.out.grown g1 HB.out.size hlow; have cCo1 := cCo q1 o1)))
            | (go_at_call 12; go_loud (((with_reducible refine cCo1.mono ?_); rintro e q2 ⟨rv, rfl, hri, g2⟩; have y7 := y6.grown g2 y6.size hlow; have cOf1 := cOf rv q2 hri)))
            | (go_at_call 13; go_loud (((with_reducible refine cOf1.mono ?_); rintro e q3 ⟨ofv, rfl, hof, h8⟩; have y8 := y7.trans (h8.mono y7.size); have hri3 := hri.below h8))))
          clear cSo cCo cCo1 cOf cOf1 g1 g2 h8 o1 hri
          generalize riseL zs = L at hof hri3 HLW HRS hL60 ⊢
          have hrf := rg_of_owns hof
          obtain ⟨oa, oc, rfl⟩ := owned_val hof
          have HRI := Lib.hid hri3
          obtain ⟨ra, rc, rfl, -⟩ := hri3
          have HRF := Lib.hid hrf
          have hle : ((ofS L).length : Int) ≤ (L.length : Int) := by have := (HLW.out 0).2; omega
          clear hof hrf
          go_wp2_with fail
          go_loopg [19, 20, 21] 92 (fun g s19 s20 s21 wr => ∃ k : Nat, k + g = 92 ∧ s19 = .int .i64 (k : Int) ∧ Below q3.heap.size q3 wr)
          case atStart => exact ⟨0, by omega, rfl, Below.refl _ _⟩
          case round =>
            obtain ⟨k, hk, rfl, hbq⟩ := hrel
            by_cases hlt : k < 92
            · obtain ⟨g', rfl⟩ : ∃ g', gk = g' + 1 := ⟨gk - 1, by omega⟩
              have cSe := searchI_any _ L (k : Int) _ (HRI.out.below hbq) (by omega) HRS.out.1
              have cHa := fun W (h : Below q3.heap.size q3 W) => hasS_any _ (ofS L) (k : Int) 91 W (HRF.out.below h)
              rw [(HLW.out k).1] at cHa
              have hkz : (k : Int) ≤ 91 := by omega
              generalize decide ((k : Int) ∈ L) = D at cSe cHa
              go_wp2_with (first
                | (go_at_call 14; go_loud (((with_reducible refine cSe.mono ?_); rintro e x1 ⟨p, rfl, h1⟩; have z1 := hbq.trans (h1.mono hbq.size); have cHa1 := cHa x1 z1)))
                | (go_at_call 9; go_loud (((with_reducible refine cHa1.mono ?_); rintro e x2 ⟨rfl, h2⟩; have z2 := z1.trans (h2.mono z1.size)))))
              go_roundg g'
              case measure => omega
              case rel => exact ⟨k + 1, by omega, by go_num, z2⟩
            · have hkz : ¬ (k : Int) ≤ 91 := by omega
              go_wp2_with fail
              go_ret
              exact ⟨rfl, y8.trans (hbq.mono y8.size)⟩)
end Go.Proofs.YtciejgelfbjmgaaDoor
