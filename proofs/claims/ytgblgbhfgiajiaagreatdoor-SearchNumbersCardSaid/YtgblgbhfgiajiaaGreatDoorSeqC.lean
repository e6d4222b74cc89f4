/- The walks over seq.Right and seq.Has: each returns what its plain function says. No condition beyond those each names. -/
import Derived.Test.YtgblgbhfgiajiaaGreatDoorSeqA
import Derived.Laws.EntriesVeiled
namespace Go.Proofs.YtgblgbhfgiajiaaGreatDoor
open Go.RowKit Go.Shelf Go.Sort
set_option linter.unusedSimpArgs false

/-- a slice of ranges -/
def RgRow (W : World) (v : Value) (l : List Rg) : Prop := ∃ ao cap, v = .slice ao l.length cap ∧ l.length ≤ cap ∧ (cap ≤ 9223372036854775807 ∧ (ao = none → cap = 0)) ∧ ∀ (j : Nat) (r : Rg), l[j]? = some r → ∃ b off, ao = some ⟨b, off, none⟩ ∧ b < W.heap.size ∧ W.cell? ⟨b, off + j * 2, none⟩ = some (.int .i64 r.1) ∧ W.cell? ⟨b, off + j * 2 + 1, none⟩ = some (.int .i64 r.2)
theorem RgRow.below {W W' : World} {v : Value} {l : List Rg} (h : RgRow W v l) (hb : Below W.heap.size W W') : RgRow W' v l := by
  obtain ⟨ao, cap, h1, h2, h3, h4⟩ := h
  refine ⟨ao, cap, h1, h2, h3, fun j r hj => ?_⟩
  obtain ⟨b, off, e1, e2, e3, e4⟩ := h4 j r hj
  exact ⟨b, off, e1, Nat.lt_of_lt_of_le e2 hb.size, (hb.cell (p := ⟨b, off + j * 2, none⟩) e2).trans e3, (hb.cell (p := ⟨b, off + j * 2 + 1, none⟩) e2).trans e4⟩
theorem RgRow.drewN {W : World} {v : Value} {l : List Rg} (h : RgRow W v l) (q : Nat) : RgRow (W.drewN q) v l := h
theorem RgRow.nil (W : World) : RgRow W (.slice none 0 0) [] := ⟨none, 0, rfl, Nat.le_refl _, ⟨by decide, fun _ => rfl⟩, fun j t h => by simp at h⟩
theorem rgCells_at : ∀ (l : List Rg) (j : Nat) (r : Rg), l[j]? = some r → (rgCells l)[j * 2]? = some (.int .i64 r.1) ∧ (rgCells l)[j * 2 + 1]? = some (.int .i64 r.2)
  | [], j, r, h => by simp at h
  | x :: l, 0, r, h => by simp at h; subst h; exact ⟨rfl, rfl⟩
  | x :: l, j + 1, r, h => by
    have ih := rgCells_at l j r (by simpa using h)
    have e : rgCells (x :: l) = Value.int .i64 x.1 :: Value.int .i64 x.2 :: rgCells l := rfl
    rw [e, show (j + 1) * 2 = j * 2 + 1 + 1 by omega]
    exact ih
theorem rgCells_len : ∀ l : List Rg, (rgCells l).length = l.length * 2
  | [] => rfl
  | x :: l => by
    have e : rgCells (x :: l) = Value.int .i64 x.1 :: Value.int .i64 x.2 :: rgCells l := rfl
    rw [e, List.length_cons, List.length_cons, rgCells_len l, List.length_cons]; omega
theorem rg_of_owns {w : World} {B : Nat} {v : Value} {l : List Rg} (h : w.ownsRow B 51 2 v l.length (rgCells l)) : RgRow w v l := by
  have h0 := h
  rcases h.2 with ⟨rfl, h1⟩ | ⟨g, cap, cur, rfl, a1, a2, a3, a4, _⟩
  · exact ⟨none, 0, by rw [h1], by omega, ⟨by decide, fun _ => rfl⟩, fun j t hj => by rw [List.length_eq_zero_iff.1 h1] at hj; simp at hj⟩
  · refine ⟨some ⟨g, 0, none⟩, cap, rfl, a3, ⟨by unfold maxLen at a4; omega, fun e => by cases e⟩, fun j r hj => ?_⟩
    obtain ⟨c1, c2⟩ := rgCells_at l j r hj
    have hl := (List.getElem?_eq_some_iff.1 hj).1
    have k1 := h0.cellAt (j * 2) (by omega)
    have k2 := h0.cellAt (j * 2 + 1) (by omega)
    rw [c1] at k1
    rw [c2] at k2
    exact ⟨g, 0, rfl, (Array.getElem?_eq_some_iff.1 a2).1, by rw [Nat.zero_add]; exact k1, by rw [Nat.zero_add]; exact k2⟩

set_option maxRecDepth 100000 in
set_option maxHeartbeats 1000000 in
theorem ok1_any (n : Int) (w : World) : Calls Tryz.prog 31 #[.int .i64 n] w fun e w' => e = .returned (.bool (okN n)) ∧ w' = w := by
  unfold okN
  by_cases h1 : 0 ≤ n
  · by_cases h2 : n ≤ 2147483647
    · rw [decide_eq_true h1, decide_eq_true h2]
      go_enter Tryz.func31, Tryz.ntmps31
      go_wp2_with fail
      go_ret
      exact ⟨rfl, rfl⟩
    · rw [decide_eq_true h1, decide_eq_false h2]
      go_enter Tryz.func31, Tryz.ntmps31
      go_wp2_with fail
      go_ret
      exact ⟨rfl, rfl⟩
  · rw [decide_eq_false h1]
    go_enter Tryz.func31, Tryz.ntmps31
    go_wp2_with fail
    go_ret
    exact ⟨rfl, rfl⟩
set_option maxRecDepth 100000 in
set_option maxHeartbeats 1000000 in
theorem ok2_any (r : Rg) (B : Nat) (w : World) (hc : w.cell? ⟨B, 0, none⟩ = some (.func (.func 31) #[] #[])) : Calls Tryz.prog 32 #[.agg #[.int .i64 r.1, .int .i64 r.2], .pointer (some ⟨B, 0, none⟩)] w fun e w' => e = .returned (.bool (!okN r.1 || !okN r.2)) ∧ Below w.heap.size w w' := by
  obtain ⟨a, b⟩ := r
  have y0 := (Below.refl w.heap.size w).alloc (Nat.le_refl _) (.cells #[.int .i64 a, .int .i64 b] 51)
  have hBl := World.block_lt_of_cell? _ _ hc
  have hz := alloc_size w (.cells #[.int .i64 a, .int .i64 b] 51)
  have c1 := ok1_any a
  have c2 := ok1_any b
  dsimp only
  cases ha : okN a with
  | false =>
    rw [ha] at c1
    go_enter Tryz.func32, Tryz.ntmps32
    go_wp2_with (go_at_call 31; go_loud (((with_reducible refine (c1 _).mono ?_); rintro e w1 ⟨rfl, hw⟩; rw [hw]; clear hw)))
    go_ret
    exact ⟨rfl, y0⟩
  | true =>
    rw [ha] at c1
    cases hb : okN b with
    | false =>
      rw [hb] at c2
      go_enter Tryz.func32, Tryz.ntmps32
      go_wp2_with (first
        | (go_at_call 31; (with_reducible refine (c1 _).mono ?_); rintro e w1 ⟨rfl, hw⟩; rw [hw]; clear hw c1)
        | (go_at_call 31; (with_reducible refine (c2 _).mono ?_); rintro e w1 ⟨rfl, hw⟩; rw [hw]; clear hw))
      go_ret
      exact ⟨rfl, y0⟩
    | true =>
      rw [hb] at c2
      go_enter Tryz.func32, Tryz.ntmps32
      go_wp2_with (first
        | (go_at_call 31; (with_reducible refine (c1 _).mono ?_); rintro e w1 ⟨rfl, hw⟩; rw [hw]; clear hw c1)
        | (go_at_call 31; (with_reducible refine (c2 _).mono ?_); rintro e w1 ⟨rfl, hw⟩; rw [hw]; clear hw))
      go_ret
      exact ⟨rfl, y0⟩
set_option maxRecDepth 100000 in
set_option maxHeartbeats 2000000 in
theorem in1_any (r : Rg) (n g : Int) (B C : Nat) (w : World) (hB : w.cell? ⟨B, 0, none⟩ = some (.int .i64 n)) (hC : w.cell? ⟨C, 0, none⟩ = some (.int .i64 g)) :
    Calls Tryz.prog 30 #[.agg #[.int .i64 r.1, .int .i64 r.2], .pointer (some ⟨C, 0, none⟩), .pointer (some ⟨B, 0, none⟩)] w fun e w' => e = .returned (.bool (inR n g r)) ∧ Below w.heap.size w w' := by
  obtain ⟨a, b⟩ := r
  have y0 := (Below.refl w.heap.size w).alloc (Nat.le_refl _) (.cells #[.int .i64 a, .int .i64 b] 51)
  have hBl := World.block_lt_of_cell? _ _ hB
  have hCl := World.block_lt_of_cell? _ _ hC
  have hz := alloc_size w (.cells #[.int .i64 a, .int .i64 b] 51)
  dsimp only
  unfold inR
  dsimp only
  by_cases ha : a = 0
  · by_cases hb : b = 0
    · rw [if_pos ha, if_pos hb]
      obtain ⟨mn, hmn⟩ : ∃ m, min g g = m := ⟨_, rfl⟩
      obtain ⟨mx, hmx⟩ : ∃ m, max g g = m := ⟨_, rfl⟩
      rw [hmn, hmx]
      subst ha
      subst hb
      go_enter Tryz.func30, Tryz.ntmps30
      go_wp2_with fail
      go_region
      go_wp2_with fail
      all_goals (go_ret; refine ⟨?_, y0.drew⟩; first | (simp [*]; done) | (rw [show decide (mn ≤ n) = false from decide_eq_false (by omega), Bool.false_and]; rfl) | (rw [show decide (mn ≤ n) = true from decide_eq_true (by omega), Bool.true_and]; rfl))
    · rw [if_pos ha, if_neg hb]
      obtain ⟨mn, hmn⟩ : ∃ m, min g b = m := ⟨_, rfl⟩
      obtain ⟨mx, hmx⟩ : ∃ m, max g b = m := ⟨_, rfl⟩
      rw [hmn, hmx]
      subst ha
      have hb2 : (b == 0) = false := by simpa using hb
      go_enter Tryz.func30, Tryz.ntmps30
      go_wp2_with fail
      go_region
      go_wp2_with fail
      all_goals (go_ret; refine ⟨?_, y0.drew⟩; first | (simp [*]; done) | (rw [show decide (mn ≤ n) = false from decide_eq_false (by omega), Bool.false_and]; rfl) | (rw [show decide (mn ≤ n) = true from decide_eq_true (by omega), Bool.true_and]; rfl))
  · by_cases hb : b = 0
    · rw [if_neg ha, if_pos hb]
      obtain ⟨mn, hmn⟩ : ∃ m, min a g = m := ⟨_, rfl⟩
      obtain ⟨mx, hmx⟩ : ∃ m, max a g = m := ⟨_, rfl⟩
      rw [hmn, hmx]
      have ha2 : (a == 0) = false := by simpa using ha
      subst hb
      go_enter Tryz.func30, Tryz.ntmps30
      go_wp2_with fail
      go_region
      go_wp2_with fail
      all_goals (go_ret; refine ⟨?_, y0.drew⟩; first | (simp [*]; done) | (rw [show decide (mn ≤ n) = false from decide_eq_false (by omega), Bool.false_and]; rfl) | (rw [show decide (mn ≤ n) = true from decide_eq_true (by omega), Bool.true_and]; rfl))
    · rw [if_neg ha, if_neg hb]
      obtain ⟨mn, hmn⟩ : ∃ m, min a b = m := ⟨_, rfl⟩
      obtain ⟨mx, hmx⟩ : ∃ m, max a b = m := ⟨_, rfl⟩
      rw [hmn, hmx]
      have ha2 : (a == 0) = false := by simpa using ha
      have hb2 : (b == 0) = false := by simpa using hb
      go_enter Tryz.func30, Tryz.ntmps30
      go_wp2_with fail
      go_region
      go_wp2_with fail
      all_goals (go_ret; refine ⟨?_, y0.drew⟩; first | (simp [*]; done) | (rw [show decide (mn ≤ n) = false from decide_eq_false (by omega), Bool.false_and]; rfl) | (rw [show decide (mn ≤ n) = true from decide_eq_true (by omega), Bool.true_and]; rfl))

set_option maxRecDepth 100000 in
set_option maxHeartbeats 4000000 in
theorem contR_any (v : Value) (l : List Rg) (B : Nat) (w : World) (hv : RgRow w v l) (hc : w.cell? ⟨B, 0, none⟩ = some (.func (.func 31) #[] #[])) :
    Calls Tryz.prog 29 #[v, .func (.func 32) #[] #[.pointer (some ⟨B, 0, none⟩)]] w fun e w' => e = .returned (.bool (l.any (fun r => !okN r.1 || !okN r.2))) ∧ Below w.heap.size w w' := by
  obtain ⟨ao, cap, rfl, hcap, hcm, hcell⟩ := hv
  have HC := Lib.hid hcell
  have hlm : l.length ≤ 9223372036854775807 := by omega
  clear hcell hcap hcm
  have cI : Calls Tryz.prog 49 #[.slice ao l.length cap, .func (.func 32) #[] #[.pointer (some ⟨B, 0, none⟩)]] w fun e w' => ∃ k : Int, e = .returned (.int .i64 k) ∧ (decide (0 ≤ k) = l.any (fun r => !okN r.1 || !okN r.2)) ∧ Below w.heap.size w w' := by
    go_enter Tryz.func49, Tryz.ntmps49
    go_wp2_with fail
    go_loopg [5, 8] l.length (fun g s5 s8 wr => ∃ k : Nat, k + g = l.length ∧ s8 = .int .i64 (k : Int) ∧ Below w.heap.size w wr ∧ Hid ((l.take k).any (fun r => !okN r.1 || !okN r.2) = false))
    case atStart => exact ⟨0, by omega, rfl, Below.refl _ _, Lib.hid rfl⟩
    case round =>
      obtain ⟨k, hk, rfl, hbr, HT⟩ := hrel
      by_cases hlt : k < l.length
      · obtain ⟨g', rfl⟩ : ∃ g', gk = g' + 1 := ⟨gk - 1, by omega⟩
        obtain ⟨r, hr⟩ : ∃ r, l[k]? = some r := ⟨l[k], List.getElem?_eq_getElem hlt⟩
        have htk : (l.take (k + 1)).any (fun r => !okN r.1 || !okN r.2) = ((l.take k).any (fun r => !okN r.1 || !okN r.2) || (fun r => !okN r.1 || !okN r.2) r) := by rw [List.take_add_one, hr]; simp
        rw [HT.out, Bool.false_or] at htk
        obtain ⟨b, off, rfl, hb, c0, c1⟩ := HC.out k r hr
        have d0 := (hbr.cell (p := ⟨b, off + k * 2, none⟩) hb).trans c0
        have d1 := (hbr.cell (p := ⟨b, off + k * 2 + 1, none⟩) hb).trans c1
        have hltz : (k : Int) < (l.length : Int) := by omega
        have cF : Calls Tryz.prog 32 #[.agg #[.int .i64 r.1, .int .i64 r.2], .pointer (some ⟨B, 0, none⟩)] wr fun e w' => e = .returned (.bool ((fun r => !okN r.1 || !okN r.2) r)) ∧ Below wr.heap.size wr w' := ok2_any r B wr ((hbr.cell (p := ⟨B, 0, none⟩) (World.block_lt_of_cell? _ _ hc)).trans hc)
        clear c0 c1
        cases hp : (fun r => !okN r.1 || !okN r.2) r with
        | true =>
          rw [hp] at cF htk
          have HA : Hid (l.any (fun r => !okN r.1 || !okN r.2) = true) := Lib.hid (by rw [List.any_eq_true]; exact ⟨r, List.mem_of_getElem? hr, hp⟩)
          clear hp hr htk
          go_wp2_with (go_at_call 32; go_loud (((with_reducible refine cF.mono ?_); rintro e w1 ⟨rfl, h⟩; have y := hbr.trans (h.mono hbr.size))))
          go_ret
          exact ⟨(k : Int), rfl, by rw [HA.out]; exact decide_eq_true (by omega), y⟩
        | false =>
          rw [hp] at cF htk
          have HT2 := Lib.hid htk
          clear hp hr htk
          go_wp2_with (go_at_call 32; go_loud (((with_reducible refine cF.mono ?_); rintro e w1 ⟨rfl, h⟩; have y := hbr.trans (h.mono hbr.size))))
          go_roundg g'
          case measure => omega
          case rel => exact ⟨k + 1, by omega, by go_num, y, HT2⟩
      · have HA : Hid (l.any (fun r => !okN r.1 || !okN r.2) = false) := Lib.hid (by have := HT.out; rwa [List.take_of_length_le (by omega)] at this)
        go_wp2_with fail
        go_ret
        exact ⟨-1, rfl, by rw [HA.out]; rfl, hbr⟩
  go_enter Tryz.func29, Tryz.ntmps29
  go_wp2_with (go_at_call 49; go_loud (((with_reducible refine cI.mono ?_); rintro e w1 ⟨k, rfl, hk, h⟩; have HK := Lib.hid hk; clear hk)))
  go_ret
  exact ⟨by rw [← HK.out]; rfl, h⟩

set_option maxRecDepth 100000 in
set_option maxHeartbeats 4000000 in
theorem contH_any (v : Value) (l : List Rg) (n gr : Int) (B C : Nat) (w : World) (hv : RgRow w v l) (hB : w.cell? ⟨B, 0, none⟩ = some (.int .i64 n)) (hC : w.cell? ⟨C, 0, none⟩ = some (.int .i64 gr)) :
    Calls Tryz.prog 29 #[v, .func (.func 30) #[] #[.pointer (some ⟨C, 0, none⟩), .pointer (some ⟨B, 0, none⟩)]] w fun e w' => e = .returned (.bool (l.any (inR n gr))) ∧ Below w.heap.size w w' := by
  obtain ⟨ao, cap, rfl, hcap, hcm, hcell⟩ := hv
  have HC := Lib.hid hcell
  have hlm : l.length ≤ 9223372036854775807 := by omega
  clear hcell hcap hcm
  have cI : Calls Tryz.prog 49 #[.slice ao l.length cap, .func (.func 30) #[] #[.pointer (some ⟨C, 0, none⟩), .pointer (some ⟨B, 0, none⟩)]] w fun e w' => ∃ k : Int, e = .returned (.int .i64 k) ∧ (decide (0 ≤ k) = l.any (inR n gr)) ∧ Below w.heap.size w w' := by
    go_enter Tryz.func49, Tryz.ntmps49
    go_wp2_with fail
    go_loopg [5, 8] l.length (fun g s5 s8 wr => ∃ k : Nat, k + g = l.length ∧ s8 = .int .i64 (k : Int) ∧ Below w.heap.size w wr ∧ Hid ((l.take k).any (inR n gr) = false))
    case atStart => exact ⟨0, by omega, rfl, Below.refl _ _, Lib.hid rfl⟩
    case round =>
      obtain ⟨k, hk, rfl, hbr, HT⟩ := hrel
      by_cases hlt : k < l.length
      · obtain ⟨g', rfl⟩ : ∃ g', gk = g' + 1 := ⟨gk - 1, by omega⟩
        obtain ⟨r, hr⟩ : ∃ r, l[k]? = some r := ⟨l[k], List.getElem?_eq_getElem hlt⟩
        have htk : (l.take (k + 1)).any (inR n gr) = ((l.take k).any (inR n gr) || (inR n gr) r) := by rw [List.take_add_one, hr]; simp
        rw [HT.out, Bool.false_or] at htk
        obtain ⟨b, off, rfl, hb, c0, c1⟩ := HC.out k r hr
        have d0 := (hbr.cell (p := ⟨b, off + k * 2, none⟩) hb).trans c0
        have d1 := (hbr.cell (p := ⟨b, off + k * 2 + 1, none⟩) hb).trans c1
        have hltz : (k : Int) < (l.length : Int) := by omega
        have cF : Calls Tryz.prog 30 #[.agg #[.int .i64 r.1, .int .i64 r.2], .pointer (some ⟨C, 0, none⟩), .pointer (some ⟨B, 0, none⟩)] wr fun e w' => e = .returned (.bool ((inR n gr) r)) ∧ Below wr.heap.size wr w' := in1_any r n gr B C wr ((hbr.cell (p := ⟨B, 0, none⟩) (World.block_lt_of_cell? _ _ hB)).trans hB) ((hbr.cell (p := ⟨C, 0, none⟩) (World.block_lt_of_cell? _ _ hC)).trans hC)
        clear c0 c1
        cases hp : (inR n gr) r with
        | true =>
          rw [hp] at cF htk
          have HA : Hid (l.any (inR n gr) = true) := Lib.hid (by rw [List.any_eq_true]; exact ⟨r, List.mem_of_getElem? hr, hp⟩)
          clear hp hr htk
          go_wp2_with (go_at_call 30; go_loud (((with_reducible refine cF.mono ?_); rintro e w1 ⟨rfl, h⟩; have y := hbr.trans (h.mono hbr.size))))
          go_ret
          exact ⟨(k : Int), rfl, by rw [HA.out]; exact decide_eq_true (by omega), y⟩
        | false =>
          rw [hp] at cF htk
          have HT2 := Lib.hid htk
          clear hp hr htk
          go_wp2_with (go_at_call 30; go_loud (((with_reducible refine cF.mono ?_); rintro e w1 ⟨rfl, h⟩; have y := hbr.trans (h.mono hbr.size))))
          go_roundg g'
          case measure => omega
          case rel => exact ⟨k + 1, by omega, by go_num, y, HT2⟩
      · have HA : Hid (l.any (inR n gr) = false) := Lib.hid (by have := HT.out; rwa [List.take_of_length_le (by omega)] at this)
        go_wp2_with fail
        go_ret
        exact ⟨-1, rfl, by rw [HA.out]; rfl, hbr⟩
  go_enter Tryz.func29, Tryz.ntmps29
  go_wp2_with (go_at_call 49; go_loud (((with_reducible refine cI.mono ?_); rintro e w1 ⟨k, rfl, hk, h⟩; have HK := Lib.hid hk; clear hk)))
  go_ret
  exact ⟨by rw [← HK.out]; rfl, h⟩

set_option maxRecDepth 100000 in
set_option maxHeartbeats 2000000 in
theorem rightS_any (v : Value) (l : List Rg) (w : World) (hv : RgRow w v l) : Calls Tryz.prog 13 #[v] w fun e w' => e = .returned (.bool (rightS l)) ∧ Below w.heap.size w w' := by
  have hv0 := hv
  obtain ⟨ao, cap, rfl, hcap, hcm, -⟩ := hv
  have hlm : l.length ≤ 9223372036854775807 := by omega
  have y0 := (Below.refl w.heap.size w).alloc (Nat.le_refl _) (.cells #[.func (.func 31) #[] #[]] 77)
  have cR := contR_any _ l w.heap.size _ (hv0.below y0) (by rw [Lib.cell_of_heap (World.heap_alloc_new w (.cells #[.func (.func 31) #[] #[]] 77))]; rfl)
  have hz := alloc_size w (.cells #[.func (.func 31) #[] #[]] 77)
  have hmf : ∀ (fn : Fn) (first cap : Array Value) (w : World), (Instr.makeFunc fn first cap).run Tryz.prog w = .ok (.func fn first cap) w := fun _ _ _ _ => rfl
  have HRR := Lib.hid (show rightS l = (decide (1 ≤ l.length) && (decide (l.length ≤ 20) && !(l.any fun r => !okN r.1 || !okN r.2))) from rfl)
  have HY := Lib.hid y0
  clear hv0 hcap hcm y0
  generalize (l.any fun r => !okN r.1 || !okN r.2) = X at cR HRR
  by_cases h1 : (1 : Int) ≤ (l.length : Int)
  · by_cases h2 : (l.length : Int) ≤ 20
    · have HQ : Hid (rightS l = !X) := Lib.hid (by rw [HRR.out, decide_eq_true (by omega), decide_eq_true (by omega)]; simp)
      go_enter Tryz.func13, Tryz.ntmps13
      go_wp2_with (go_at_call 29; go_loud (((with_reducible refine cR.mono ?_); rintro e w1 ⟨rfl, h⟩; have y := HY.out.trans (h.mono HY.out.size))))
      go_ret
      exact ⟨by rw [HQ.out]; rfl, y⟩
    · have HQ : Hid (rightS l = false) := Lib.hid (by rw [HRR.out, decide_eq_false (by omega : ¬ l.length ≤ 20)]; simp)
      go_enter Tryz.func13, Tryz.ntmps13
      go_wp2_with fail
      go_ret
      exact ⟨by rw [HQ.out]; rfl, HY.out⟩
  · have HQ : Hid (rightS l = false) := Lib.hid (by rw [HRR.out, decide_eq_false (by omega : ¬ 1 ≤ l.length)]; simp)
    go_enter Tryz.func13, Tryz.ntmps13
    go_wp2_with fail
    go_ret
    exact ⟨by rw [HQ.out]; rfl, HY.out⟩
set_option maxRecDepth 100000 in
set_option maxHeartbeats 2000000 in
theorem hasS_any (v : Value) (l : List Rg) (n g : Int) (w : World) (hv : RgRow w v l) : Calls Tryz.prog 12 #[v, .int .i64 n, .int .i64 g] w fun e w' => e = .returned (.bool (hasS l n g)) ∧ Below w.heap.size w w' := by
  have s1 := alloc_size w (.cells #[.int .i64 n] 3)
  have s2 := alloc_size (w.alloc (.cells #[.int .i64 n] 3)) (.cells #[.int .i64 g] 3)
  have k1 := World.heap_alloc_new w (.cells #[.int .i64 n] 3)
  have k2 := World.heap_alloc_new (w.alloc (.cells #[.int .i64 n] 3)) (.cells #[.int .i64 g] 3)
  rw [s1] at k2
  have y0 := ((Below.refl w.heap.size w).alloc (Nat.le_refl _) (.cells #[.int .i64 n] 3)).alloc (by rw [s1]; omega) (.cells #[.int .i64 g] 3)
  have cH := contH_any v l n g w.heap.size (w.heap.size + 1) _ (hv.below y0) (by rw [Lib.cell_of_heap (alloc_same k1)]; rfl) (by rw [Lib.cell_of_heap k2]; rfl)
  have hmf : ∀ (fn : Fn) (first cap : Array Value) (w : World), (Instr.makeFunc fn first cap).run Tryz.prog w = .ok (.func fn first cap) w := fun _ _ _ _ => rfl
  have HY := Lib.hid y0
  have HX : Hid (hasS l n g = l.any (inR n g)) := Lib.hid rfl
  clear k1 k2 y0 hv
  go_enter Tryz.func12, Tryz.ntmps12
  go_wp2_with (go_at_call 29; go_loud (((with_reducible refine cH.mono ?_); rintro e w1 ⟨rfl, h⟩; have y := HY.out.trans (h.mono HY.out.size))))
  go_ret
  exact ⟨by rw [HX.out]; rfl, y⟩
end Go.Proofs.YtgblgbhfgiajiaaGreatDoor
