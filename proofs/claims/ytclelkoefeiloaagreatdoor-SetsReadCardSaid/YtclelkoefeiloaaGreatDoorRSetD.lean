/- The walk over the reference's PrintSet: it returns how a set is written, or that it may not be. Conditions: strconv's table of powers and its two errors, and bytealg.MaxLen, lie as the program's text lays them. -/
import Derived.Test.YtclelkoefeiloaaGreatDoorRSetC
import Derived.Test.YtclelkoefeiloaaGreatDoorPRSet
import Derived.Test.YtclelkoefeiloaaGreatDoorRepG
namespace Go.Proofs.YtclelkoefeiloaaGreatDoor
open Go.RowKit Go.Shelf Go.Sort
set_option linter.unusedSimpArgs false

set_option maxRecDepth 100000 in
theorem mark_any (n : Int) (w : World) (h : okN n = true) (hM : MaxG w) : Calls Tryz.prog 24 #[.string ⟨([60] ++ Lib.itoa n ++ [62]).toArray⟩, .string ⟨#[60, 48, 62]⟩, .string ⟨#[60, 42, 62]⟩] w fun e w' => e = .returned (.string ⟨(markN n).toArray⟩) ∧ Below w.heap.size w w' := by
  obtain ⟨m, hm⟩ := hM
  have hl : (Lib.itoa n).length ≤ 11 := by
    have := textN_len h
    unfold okN at h
    rw [Bool.and_eq_true, decide_eq_true_eq, decide_eq_true_eq] at h
    by_cases h0 : n = 0
    · subst h0; rw [show Lib.itoa 0 = [48] by kernel_rfl]; decide
    · unfold textN at this; rw [if_neg h0] at this; omega
  have e2 := mark_text h
  obtain ⟨X, hX⟩ : ∃ X, [60] ++ Lib.itoa n ++ [62] = X := ⟨_, rfl⟩
  have hXl : X.length ≤ 13 := by rw [← hX]; simp; omega
  rw [hX] at e2 ⊢
  have hsz : (⟨X.toArray⟩ : ByteArray).size ≤ 13 := by rw [text_size]; exact hXl
  have h3 : (⟨#[60, 42, 62]⟩ : ByteArray).size = 3 := rfl
  have h4 : 1 ≤ (⟨#[60, 48, 62]⟩ : ByteArray).size := by decide
  have hcb := Lib.countB_le ⟨#[60, 48, 62]⟩ h4 _ (⟨X.toArray⟩ : ByteArray) (Nat.le_refl _)
  have hc := Tryz.strings_ReplaceAll ⟨X.toArray⟩ ⟨#[60, 48, 62]⟩ ⟨#[60, 42, 62]⟩ m w (by omega) hm h4 (by rw [h3]; omega)
  rw [show (⟨X.toArray⟩ : ByteArray).data.toList = X from rfl, show (⟨#[60, 48, 62]⟩ : ByteArray).data.toList = [60, 48, 62] from rfl, show (⟨#[60, 42, 62]⟩ : ByteArray).data.toList = [60, 42, 62] from rfl, e2] at hc
  exact hc
/-- what the reference's PrintSet brings -/
def RefPr (l : List Rg) (w : World) (e : Ending) (w' : World) : Prop := if rightS l = true then e = .returned (.tuple #[.string ⟨(printS l).toArray⟩, .int .i64 0]) ∧ Below w.heap.size w w'
  else e = .returned (.tuple #[.string ⟨#[]⟩, .int .i64 1]) ∧ Below w.heap.size w w'
def markTs : List Txt := [[60], [], [62], []]
theorem mark_row (w : World) : SRow (w.alloc (.cells #[.string ⟨#[60]⟩, .string ⟨#[]⟩, .string ⟨#[62]⟩, .string ⟨#[]⟩] 9)) (.slice (some ⟨w.heap.size, 0, none⟩) 4 4) markTs := by
  refine ⟨_, 4, rfl, by decide, ⟨by decide, fun e => by cases e⟩, fun j t hj => ⟨w.heap.size, 0, rfl, by rw [alloc_size]; exact Nat.lt_succ_self _, ?_⟩⟩
  rw [Lib.cell_of_heap (World.heap_alloc_new w _), Nat.zero_add]
  match j, hj with
  | 0, hj => cases hj; rfl
  | 1, hj => cases hj; rfl
  | 2, hj => cases hj; rfl
  | 3, hj => cases hj; rfl
  | j + 4, hj => simp [markTs] at hj
theorem itoa_mark {n : Int} (h : okN n = true) : (Lib.itoa n).length ≤ 11 := by
  have := textN_len h
  unfold okN at h
  rw [Bool.and_eq_true, decide_eq_true_eq, decide_eq_true_eq] at h
  by_cases h0 : n = 0
  · subst h0; rw [show Lib.itoa 0 = [48] by kernel_rfl]; decide
  · unfold textN at this; rw [if_neg h0] at this; omega
theorem ok_bounds {n : Int} (h : okN n = true) : 0 ≤ n ∧ n ≤ 2147483647 := by
  unfold okN at h
  rw [Bool.and_eq_true, decide_eq_true_eq, decide_eq_true_eq] at h
  exact h
set_option maxRecDepth 100000 in
set_option maxHeartbeats 16000000 in
theorem printSet_any (v : Value) (l : List Rg) (w : World) (hv : RgRow w v l) (hG : StrG w) (hM : MaxG w) : Calls Tryz.prog 8 #[v] w (RefPr l w) := by
  have cR := rangesR_any v l w hv
  cases hrs : rightS l with
  | false =>
    have HR : Hid (∀ e w', e = .returned (.tuple #[.string ⟨#[]⟩, .int .i64 1]) → Below w.heap.size w w' → RefPr l w e w') := Lib.hid (fun e w' h1 h2 => by unfold RefPr; rw [if_neg (by rw [hrs]; decide)]; exact ⟨h1, h2⟩)
    rw [hrs] at cR
    obtain ⟨ao, cap, rfl, -⟩ := hv
    clear hrs
    go_enter Tryz.func8, Tryz.ntmps8
    go_wp2_with (go_at_call 11; go_loud (((with_reducible refine cR.mono ?_); rintro e w1 ⟨rfl, h1⟩)))
    go_ret2
    exact HR.out _ _ rfl h1
  | true =>
    have HR : Hid (∀ e w', e = .returned (.tuple #[.string ⟨(printS l).toArray⟩, .int .i64 0]) → Below w.heap.size w w' → RefPr l w e w') := Lib.hid (fun e w' h1 h2 => by unfold RefPr; rw [if_pos hrs]; exact ⟨h1, h2⟩)
    rw [hrs] at cR
    obtain ⟨q1, q2, q3⟩ := right_parts hrs
    have HML : Hid (∀ k, (markS (l.take k)).length ≤ 520) := Lib.hid (fun k => markS_len (by rw [List.length_take]; omega) (fun r hr => q3 r (List.mem_of_mem_take hr)))
    have HRP : Hid (repF markP (markS l) = printS l) := Lib.hid (rep_markS l q3)
    obtain ⟨ao, cap, rfl, hcap, hcm, hcell⟩ := hv
    have HC := Lib.hid hcell
    have HQ := Lib.hid q3
    have HG := Lib.hid (fun W (h : Below w.heap.size w W) => hG.below h)
    have HM := Lib.hid (fun W (h : Below w.heap.size w W) => hM.below h)
    clear hrs hcell q3 hcap hcm q1 hG hM
    go_enter Tryz.func8, Tryz.ntmps8
    go_wp2_with (go_at_call 11; go_loud (((with_reducible refine cR.mono ?_); rintro e w1 ⟨rfl, y1⟩)))
    have HY := Lib.hid y1
    clear y1 cR
    go_loopg [4, 5, 12] l.length (fun g s4 s5 s12 wr => ∃ k : Nat, k + g = l.length ∧ s12 = .int .i64 (k : Int) ∧ s4 = .string ⟨(markS (l.take k)).toArray⟩ ∧ Below w.heap.size w wr)
    case atStart => exact ⟨0, by omega, rfl, rfl, HY.out⟩
    case round =>
      clear HY
      obtain ⟨k, hk, rfl, rfl, hbr⟩ := hrel
      by_cases hlt : k < l.length
      · obtain ⟨g', rfl⟩ : ∃ g', gk = g' + 1 := ⟨gk - 1, by omega⟩
        obtain ⟨r, hr⟩ : ∃ r, l[k]? = some r := ⟨l[k], List.getElem?_eq_getElem hlt⟩
        have htk : l.take (k + 1) = l.take k ++ [r] := by rw [List.take_add_one, hr]; rfl
        obtain ⟨b, off, rfl, hb, c0, c1⟩ := HC.out k r hr
        have d0 := (hbr.cell (p := ⟨b, off + k * 2, none⟩) hb).trans c0
        have d1 := (hbr.cell (p := ⟨b, off + k * 2 + 1, none⟩) hb).trans c1
        obtain ⟨o1, o2⟩ := HQ.out r (List.mem_of_getElem? hr)
        have hltz : (k : Int) < (l.length : Int) := by omega
        obtain ⟨x1, x2⟩ := r
        dsimp only at d0 d1 o1 o2
        have hz := alloc_size wr (.cells #[.int .i64 x1, .int .i64 x2] 47)
        have ya := hbr.alloc hbr.size (.cells #[.int .i64 x1, .int .i64 x2] 47)
        have HN := Lib.hid (World.heap_alloc_new wr (.cells #[.int .i64 x1, .int .i64 x2] 47))
        have cI1 := itoa_any x1 (wr.alloc (.cells #[.int .i64 x1, .int .i64 x2] 47)) (ok_bounds o1).1 (by have := (ok_bounds o1).2; omega) (HG.out _ ya)
        have cI2 := fun W hW => itoa_any x2 W (ok_bounds o2).1 (by have := (ok_bounds o2).2; omega) hW
        have cM1 := fun W hW => mark_any x1 W o1 hW
        have cM2 := fun W hW => mark_any x2 W o2 hW
        have la := HML.out k
        have li1 := itoa_mark o1
        have li2 := itoa_mark o2
        have lm1 := markN_len o1
        have lm2 := markN_len o2
        have hmr : markR (x1, x2) = if x1 = x2 then markN x1 else markN x1 ++ ([58] ++ markN x2) := rfl
        have hks : markS (l.take (k + 1)) = if k = 0 then markR (x1, x2) else markS (l.take k) ++ [44] ++ markR (x1, x2) := by
          by_cases h0 : k = 0
          · subst h0; rw [if_pos rfl, htk]; unfold markS; rw [List.take_zero, List.nil_append, List.map_cons, List.map_nil, Lib.join_one]
          · rw [if_neg h0, htk]
            unfold markS
            rw [List.map_append, List.map_cons, List.map_nil, join_snoc _ _ _ (by intro e; have h9 := congrArg List.length e; rw [List.length_map, List.length_take, List.length_nil] at h9; omega)]
        have HYA := Lib.hid ya
        have HTK := Lib.hid htk
        clear c0 c1 htk ya o1 o2 hr
        generalize Lib.itoa x1 = D1 at cI1 cM1 li1
        generalize Lib.itoa x2 = D2 at cI2 cM2 li2
        generalize markN x1 = M1 at cM1 lm1 hmr
        generalize markN x2 = M2 at cM2 lm2 hmr
        obtain ⟨A, hA⟩ : ∃ A, markS (l.take k) = A := ⟨_, rfl⟩
        have HA0 : Hid (k = 0 → A = []) := Lib.hid (fun h => by rw [← hA, h]; rfl)
        rw [hA] at la hks ⊢
        obtain ⟨q1, hq1⟩ : ∃ q, q = [60] ++ D1 := ⟨_, rfl⟩
        obtain ⟨q2, hq2⟩ : ∃ q, q = q1 ++ [62] := ⟨_, rfl⟩
        obtain ⟨p1, hp1⟩ : ∃ q, q = [60] ++ D2 := ⟨_, rfl⟩
        obtain ⟨p2, hp2⟩ : ∃ q, q = p1 ++ [62] := ⟨_, rfl⟩
        have a1 : (⟨#[60]⟩ : ByteArray) ++ ⟨D1.toArray⟩ = ⟨q1.toArray⟩ := by rw [hq1]; exact text_cat [60] D1
        have a2 : (⟨q1.toArray⟩ : ByteArray) ++ ⟨#[62]⟩ = ⟨q2.toArray⟩ := by rw [hq2]; exact text_cat q1 [62]
        have a3 : (⟨#[60]⟩ : ByteArray) ++ ⟨D2.toArray⟩ = ⟨p1.toArray⟩ := by rw [hp1]; exact text_cat [60] D2
        have a4 : (⟨p1.toArray⟩ : ByteArray) ++ ⟨#[62]⟩ = ⟨p2.toArray⟩ := by rw [hp2]; exact text_cat p1 [62]
        rw [← hq1, ← hq2] at cM1
        rw [← hp1, ← hp2] at cM2
        have s0 := text_size A
        have s1 := text_size D1
        have s2 := text_size D2
        have s3 := text_size q1
        have s4 := text_size p1
        have s5 := text_size M1
        have s6 := text_size M2
        have l1 : q1.length ≤ 12 := by rw [hq1]; simp; omega
        have l2 : p1.length ≤ 12 := by rw [hp1]; simp; omega
        clear hq1 hq2 hp1 hp2 hA
        by_cases hk0 : k = 0
        · have hA0 : A = [] := HA0.out hk0
          by_cases heq : x1 = x2
          · obtain ⟨B1, hB1⟩ : ∃ q, q = A ++ M1 := ⟨_, rfl⟩
            have a6 : (⟨A.toArray⟩ : ByteArray) ++ ⟨M1.toArray⟩ = ⟨B1.toArray⟩ := by rw [hB1]; exact text_cat A M1
            have l4 : B1.length ≤ 540 := by rw [hB1]; simp; omega
            have s8 := text_size B1
            have e1 : (x1 != x2) = false := by simpa using heq
            have HS : Hid (markS (l.take (k + 1)) = B1) := Lib.hid (by rw [hks, hmr, if_pos hk0, if_pos heq, hB1]; (try simp [hA0]))
            have HK0 := Lib.hid hk0
            have hkz : ¬ (0 : Int) < (k : Int) := by omega
            clear hB1 hks hmr heq hk0 hA0
            go_wp2_with (first
              | (go_at_call 25; (with_reducible refine cI1.mono ?_); rintro e v1 ⟨rfl, h1⟩; have y1 := HYA.out.trans (h1.mono HYA.out.size); have g1 := HM.out _ y1; have n1 := below_same h1 HN.out; have z1 := h1.size; clear cI1)
              | (go_at_call 24; (with_reducible refine (cM1 _ g1).mono ?_); rintro e v2 ⟨rfl, h2⟩; have y2 := y1.trans (h2.mono y1.size); have n2 := below_same h2 n1; have j0 := Lib.cell_of_heap n2 0; have j1 := Lib.cell_of_heap n2 1; have g2 := HG.out _ y2; have z2 := h2.size; clear cM1))
            go_roundg g'
            case measure => omega
            case rel => exact ⟨k + 1, by omega, by go_num, by rw [HS.out], y2⟩
          · obtain ⟨B1, hB1⟩ : ∃ q, q = A ++ M1 := ⟨_, rfl⟩
            have a6 : (⟨A.toArray⟩ : ByteArray) ++ ⟨M1.toArray⟩ = ⟨B1.toArray⟩ := by rw [hB1]; exact text_cat A M1
            have l4 : B1.length ≤ 540 := by rw [hB1]; simp; omega
            have s8 := text_size B1
            obtain ⟨t1, ht1⟩ : ∃ q, q = [58] ++ M2 := ⟨_, rfl⟩
            obtain ⟨B2, hB2⟩ : ∃ q, q = B1 ++ t1 := ⟨_, rfl⟩
            have a7 : (⟨#[58]⟩ : ByteArray) ++ ⟨M2.toArray⟩ = ⟨t1.toArray⟩ := by rw [ht1]; exact text_cat [58] M2
            have a8 : (⟨B1.toArray⟩ : ByteArray) ++ ⟨t1.toArray⟩ = ⟨B2.toArray⟩ := by rw [hB2]; exact text_cat B1 t1
            have l5 : t1.length ≤ 13 := by rw [ht1]; simp; omega
            have s9 := text_size t1
            have e1 : (x1 != x2) = true := by simpa using heq
            have HS : Hid (markS (l.take (k + 1)) = B2) := Lib.hid (by rw [hks, hmr, if_pos hk0, if_neg heq, hB2, ht1, hB1]; (try simp [hA0]))
            have HK0 := Lib.hid hk0
            have hkz : ¬ (0 : Int) < (k : Int) := by omega
            clear hB1 ht1 hB2 hks hmr heq hk0 hA0
            go_wp2_with (first
              | (go_at_call 25; (with_reducible refine cI1.mono ?_); rintro e v1 ⟨rfl, h1⟩; have y1 := HYA.out.trans (h1.mono HYA.out.size); have g1 := HM.out _ y1; have n1 := below_same h1 HN.out; have z1 := h1.size; clear cI1)
              | (go_at_call 24; (with_reducible refine (cM1 _ g1).mono ?_); rintro e v2 ⟨rfl, h2⟩; have y2 := y1.trans (h2.mono y1.size); have n2 := below_same h2 n1; have j0 := Lib.cell_of_heap n2 0; have j1 := Lib.cell_of_heap n2 1; have g2 := HG.out _ y2; have z2 := h2.size; clear cM1)
              | (go_at_call 25; (with_reducible refine (cI2 _ g2).mono ?_); rintro e v3 ⟨rfl, h3⟩; have y3 := y2.trans (h3.mono y2.size); have g3 := HM.out _ y3)
              | (go_at_call 24; (with_reducible refine (cM2 _ g3).mono ?_); rintro e v4 ⟨rfl, h4⟩; have y4 := y3.trans (h4.mono y3.size)))
            go_roundg g'
            case measure => omega
            case rel => exact ⟨k + 1, by omega, by go_num, by rw [HS.out], y4⟩
        · by_cases heq : x1 = x2
          · obtain ⟨A1, hA1⟩ : ∃ q, q = A ++ [44] := ⟨_, rfl⟩
            have a5 : (⟨A.toArray⟩ : ByteArray) ++ ⟨#[44]⟩ = ⟨A1.toArray⟩ := by rw [hA1]; exact text_cat A [44]
            have l3 : A1.length ≤ 521 := by rw [hA1]; simp; omega
            have s7 := text_size A1
            obtain ⟨B1, hB1⟩ : ∃ q, q = A1 ++ M1 := ⟨_, rfl⟩
            have a6 : (⟨A1.toArray⟩ : ByteArray) ++ ⟨M1.toArray⟩ = ⟨B1.toArray⟩ := by rw [hB1]; exact text_cat A1 M1
            have l4 : B1.length ≤ 540 := by rw [hB1]; simp; omega
            have s8 := text_size B1
            have e1 : (x1 != x2) = false := by simpa using heq
            have HS : Hid (markS (l.take (k + 1)) = B1) := Lib.hid (by rw [hks, hmr, if_neg hk0, if_pos heq, hB1, hA1]; (try simp))
            have HK0 := Lib.hid hk0
            have hkz : (0 : Int) < (k : Int) := by omega
            clear hB1 hA1 hks hmr heq hk0
            go_wp2_with (first
              | (go_at_call 25; (with_reducible refine cI1.mono ?_); rintro e v1 ⟨rfl, h1⟩; have y1 := HYA.out.trans (h1.mono HYA.out.size); have g1 := HM.out _ y1; have n1 := below_same h1 HN.out; have z1 := h1.size; clear cI1)
              | (go_at_call 24; (with_reducible refine (cM1 _ g1).mono ?_); rintro e v2 ⟨rfl, h2⟩; have y2 := y1.trans (h2.mono y1.size); have n2 := below_same h2 n1; have j0 := Lib.cell_of_heap n2 0; have j1 := Lib.cell_of_heap n2 1; have g2 := HG.out _ y2; have z2 := h2.size; clear cM1))
            go_roundg g'
            case measure => omega
            case rel => exact ⟨k + 1, by omega, by go_num, by rw [HS.out], y2⟩
          · obtain ⟨A1, hA1⟩ : ∃ q, q = A ++ [44] := ⟨_, rfl⟩
            have a5 : (⟨A.toArray⟩ : ByteArray) ++ ⟨#[44]⟩ = ⟨A1.toArray⟩ := by rw [hA1]; exact text_cat A [44]
            have l3 : A1.length ≤ 521 := by rw [hA1]; simp; omega
            have s7 := text_size A1
            obtain ⟨B1, hB1⟩ : ∃ q, q = A1 ++ M1 := ⟨_, rfl⟩
            have a6 : (⟨A1.toArray⟩ : ByteArray) ++ ⟨M1.toArray⟩ = ⟨B1.toArray⟩ := by rw [hB1]; exact text_cat A1 M1
            have l4 : B1.length ≤ 540 := by rw [hB1]; simp; omega
            have s8 := text_size B1
            obtain ⟨t1, ht1⟩ : ∃ q, q = [58] ++ M2 := ⟨_, rfl⟩
            obtain ⟨B2, hB2⟩ : ∃ q, q = B1 ++ t1 := ⟨_, rfl⟩
            have a7 : (⟨#[58]⟩ : ByteArray) ++ ⟨M2.toArray⟩ = ⟨t1.toArray⟩ := by rw [ht1]; exact text_cat [58] M2
            have a8 : (⟨B1.toArray⟩ : ByteArray) ++ ⟨t1.toArray⟩ = ⟨B2.toArray⟩ := by rw [hB2]; exact text_cat B1 t1
            have l5 : t1.length ≤ 13 := by rw [ht1]; simp; omega
            have s9 := text_size t1
            have e1 : (x1 != x2) = true := by simpa using heq
            have HS : Hid (markS (l.take (k + 1)) = B2) := Lib.hid (by rw [hks, hmr, if_neg hk0, if_neg heq, hB2, ht1, hB1, hA1]; (try simp))
            have HK0 := Lib.hid hk0
            have hkz : (0 : Int) < (k : Int) := by omega
            clear hB1 hA1 ht1 hB2 hks hmr heq hk0
            go_wp2_with (first
              | (go_at_call 25; (with_reducible refine cI1.mono ?_); rintro e v1 ⟨rfl, h1⟩; have y1 := HYA.out.trans (h1.mono HYA.out.size); have g1 := HM.out _ y1; have n1 := below_same h1 HN.out; have z1 := h1.size; clear cI1)
              | (go_at_call 24; (with_reducible refine (cM1 _ g1).mono ?_); rintro e v2 ⟨rfl, h2⟩; have y2 := y1.trans (h2.mono y1.size); have n2 := below_same h2 n1; have j0 := Lib.cell_of_heap n2 0; have j1 := Lib.cell_of_heap n2 1; have g2 := HG.out _ y2; have z2 := h2.size; clear cM1)
              | (go_at_call 25; (with_reducible refine (cI2 _ g2).mono ?_); rintro e v3 ⟨rfl, h3⟩; have y3 := y2.trans (h3.mono y2.size); have g3 := HM.out _ y3)
              | (go_at_call 24; (with_reducible refine (cM2 _ g3).mono ?_); rintro e v4 ⟨rfl, h4⟩; have y4 := y3.trans (h4.mono y3.size)))
            go_roundg g'
            case measure => omega
            case rel => exact ⟨k + 1, by omega, by go_num, by rw [HS.out], y4⟩
      · obtain rfl : k = l.length := by omega
        have HB := Lib.hid hbr
        have lml := HML.out l.length
        rw [List.take_length] at lml ⊢
        have hz := alloc_size wr (.cells #[.string ⟨#[60]⟩, .string ⟨#[]⟩, .string ⟨#[62]⟩, .string ⟨#[]⟩] 9)
        have ya := hbr.alloc hbr.size (.cells #[.string ⟨#[60]⟩, .string ⟨#[]⟩, .string ⟨#[62]⟩, .string ⟨#[]⟩] 9)
        have cN := newRep_any (.slice (some ⟨wr.heap.size, 0, none⟩) 4 4) 2 markTs _ (mark_row wr) rfl (by decide)
        have cRe := fun R sv (W : World) hR hN (ho : W.ownsRow (wr.heap.size + 1) 9 1 sv markTs.length (markTs.map encStr)) => replace_any markP (markS l) R (wr.heap.size + 1) sv W hR hN ho (by decide) (by decide) (by decide) (by decide) (by omega)
        rw [HRP.out] at cRe
        rw [hz] at cN
        have hb2 := hbr.size
        clear hbr hk lml HML HRP
        go_wp2_with (first
          | (go_at_call 26; go_loud (((with_reducible refine cN.mono ?_); rintro e w1 ⟨R, sv, rfl, h1, h2, h3, h4⟩; have y1 := ya.trans (h4.mono (by omega)))))
          | (go_at_call 27; go_loud (((with_reducible refine (cRe R sv w1 h2 h1 h3).mono ?_); rintro e w2 ⟨rfl, h5⟩; have y2 := y1.trans (h5.mono (by omega))))))
        go_ret2
        exact HR.out _ _ rfl y2
end Go.Proofs.YtclelkoefeiloaaGreatDoor
