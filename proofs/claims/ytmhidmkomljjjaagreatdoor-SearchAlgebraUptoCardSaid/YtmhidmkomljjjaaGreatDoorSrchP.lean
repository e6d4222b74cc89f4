/- slices.ContainsFunc at a row of fields, and of keys, with the closures of search.Holds: each returns what its plain function says, where the closure does. No condition beyond those each names. -/
import Derived.Test.YtmhidmkomljjjaaGreatDoorSrchO
namespace Go.Proofs.YtmhidmkomljjjaaGreatDoor
open Go.RowKit Go.Shelf Go.Sort
set_option linter.unusedSimpArgs false

set_option maxRecDepth 100000 in
set_option maxHeartbeats 4000000 in
theorem contF_any (ao : Option Addr) (cap : Nat) (l : List Fld) (p : Fld → Bool) (q : Value) (w : World) (hlm : l.length ≤ 9223372036854775807) (hcell : ∀ (j : Nat) (f : Fld), l[j]? = some f → ∃ b off, ao = some ⟨b, off, none⟩ ∧ b < w.heap.size ∧ w.cell? ⟨b, off + j * 2, none⟩ = some (.string ⟨f.1.toArray⟩) ∧ w.cell? ⟨b, off + j * 2 + 1, none⟩ = some (.string ⟨f.2.toArray⟩))
    (cF : ∀ (j : Nat) (f : Fld) (W : World), l[j]? = some f → Below w.heap.size w W → Calls Tryz.prog 16 #[.agg #[.string ⟨f.1.toArray⟩, .string ⟨f.2.toArray⟩], q] W fun e w' => e = .returned (.bool (p f)) ∧ Below W.heap.size W w') :
    Calls Tryz.prog 15 #[.slice ao l.length cap, .func (.func 16) #[] #[q]] w fun e w' => e = .returned (.bool (l.any p)) ∧ Below w.heap.size w w' := by
  have HC := Lib.hid hcell
  have HF := Lib.hid cF
  clear hcell cF
  have cI : Calls Tryz.prog 31 #[.slice ao l.length cap, .func (.func 16) #[] #[q]] w fun e w' => ∃ k : Int, e = .returned (.int .i64 k) ∧ (decide (0 ≤ k) = l.any p) ∧ Below w.heap.size w w' := by
    go_enter Tryz.func31, Tryz.ntmps31
    go_wp2_with fail
    go_loopg [5, 8] l.length (fun g s5 s8 wr => ∃ k : Nat, k + g = l.length ∧ s8 = .int .i64 (k : Int) ∧ Below w.heap.size w wr ∧ Hid ((l.take k).any p = false))
    case atStart => exact ⟨0, by omega, rfl, Below.refl _ _, Lib.hid rfl⟩
    case round =>
      obtain ⟨k, hk, rfl, hbr, HT⟩ := hrel
      by_cases hlt : k < l.length
      · obtain ⟨g', rfl⟩ : ∃ g', gk = g' + 1 := ⟨gk - 1, by omega⟩
        obtain ⟨r, hr⟩ : ∃ r, l[k]? = some r := ⟨l[k], List.getElem?_eq_getElem hlt⟩
        have htk : (l.take (k + 1)).any p = ((l.take k).any p || p r) := by rw [List.take_add_one, hr]; simp
        rw [HT.out, Bool.false_or] at htk
        obtain ⟨b, off, rfl, hb, c0, c1⟩ := HC.out k r hr
        have d0 := (hbr.cell (p := ⟨b, off + k * 2, none⟩) hb).trans c0
        have d1 := (hbr.cell (p := ⟨b, off + k * 2 + 1, none⟩) hb).trans c1
        have cF := HF.out k r wr hr hbr
        clear c0 c1
        have hltz : (k : Int) < (l.length : Int) := by omega
        cases hp : p r with
        | true =>
          rw [hp] at cF htk
          have HA : Hid (l.any p = true) := Lib.hid (by rw [List.any_eq_true]; exact ⟨r, List.mem_of_getElem? hr, hp⟩)
          clear hp hr htk
          go_wp2_with (go_at_call 16; go_loud (((with_reducible refine cF.mono ?_); rintro e w1 ⟨rfl, h⟩; have y := hbr.trans (h.mono hbr.size))))
          go_ret
          exact ⟨(k : Int), rfl, by rw [HA.out]; exact decide_eq_true (by omega), y⟩
        | false =>
          rw [hp] at cF htk
          have HT2 := Lib.hid htk
          clear hp hr htk
          go_wp2_with (go_at_call 16; go_loud (((with_reducible refine cF.mono ?_); rintro e w1 ⟨rfl, h⟩; have y := hbr.trans (h.mono hbr.size))))
          go_roundg g'
          case measure => omega
          case rel => exact ⟨k + 1, by omega, by go_num, y, HT2⟩
      · have HA : Hid (l.any p = false) := Lib.hid (by have := HT.out; rwa [List.take_of_length_le (by omega)] at this)
        go_wp2_with fail
        go_ret
        exact ⟨-1, rfl, by rw [HA.out]; rfl, hbr⟩
  go_enter Tryz.func15, Tryz.ntmps15
  go_wp2_with (go_at_call 31; go_loud (((with_reducible refine cI.mono ?_); rintro e w1 ⟨k, rfl, hk, h⟩; have HK := Lib.hid hk; clear hk)))
  go_ret
  exact ⟨by rw [← HK.out]; rfl, h⟩

set_option maxRecDepth 100000 in
set_option maxHeartbeats 4000000 in
theorem contK2_any (ao : Option Addr) (cap : Nat) (l : List KeyP) (vs : Nat → List Value) (p : KeyP → Bool) (q1 q2 q3 : Value) (w : World) (hlm : l.length ≤ 9223372036854775807) (hcell : ∀ (j : Nat) (t : KeyP), l[j]? = some t → ∃ b off, ao = some ⟨b, off, none⟩ ∧ b < w.heap.size ∧ ∀ (i : Nat) (u : Value), (vs j)[i]? = some u → w.cell? ⟨b, off + j * 6 + i, none⟩ = some u)
    (cF : ∀ (j : Nat) (t : KeyP) (W : World), l[j]? = some t → Below w.heap.size w W → (∃ a b c d e f, vs j = [a, b, c, d, e, f]) ∧ Calls Tryz.prog 22 #[.agg (vs j).toArray, q1, q2, q3] W fun e w' => e = .returned (.bool (p t)) ∧ Below W.heap.size W w') :
    Calls Tryz.prog 21 #[.slice ao l.length cap, .func (.func 22) #[] #[q1, q2, q3]] w fun e w' => e = .returned (.bool (l.any p)) ∧ Below w.heap.size w w' := by
  have HC := Lib.hid hcell
  have HF := Lib.hid cF
  clear hcell cF
  have cI : Calls Tryz.prog 37 #[.slice ao l.length cap, .func (.func 22) #[] #[q1, q2, q3]] w fun e w' => ∃ k : Int, e = .returned (.int .i64 k) ∧ (decide (0 ≤ k) = l.any p) ∧ Below w.heap.size w w' := by
    go_enter Tryz.func37, Tryz.ntmps37
    go_wp2_with fail
    go_loopg [5, 8] l.length (fun g s5 s8 wr => ∃ k : Nat, k + g = l.length ∧ s8 = .int .i64 (k : Int) ∧ Below w.heap.size w wr ∧ Hid ((l.take k).any p = false))
    case atStart => exact ⟨0, by omega, rfl, Below.refl _ _, Lib.hid rfl⟩
    case round =>
      obtain ⟨k, hk, rfl, hbr, HT⟩ := hrel
      by_cases hlt : k < l.length
      · obtain ⟨g', rfl⟩ : ∃ g', gk = g' + 1 := ⟨gk - 1, by omega⟩
        obtain ⟨r, hr⟩ : ∃ r, l[k]? = some r := ⟨l[k], List.getElem?_eq_getElem hlt⟩
        have htk : (l.take (k + 1)).any p = ((l.take k).any p || p r) := by rw [List.take_add_one, hr]; simp
        rw [HT.out, Bool.false_or] at htk
        obtain ⟨b, off, rfl, hb, c0⟩ := HC.out k r hr
        obtain ⟨⟨z0, z1, z2, z3, z4, z5, hz⟩, cF⟩ := HF.out k r wr hr hbr
        rw [hz] at c0 cF
        have d0 := (hbr.cell (p := ⟨b, off + k * 6, none⟩) hb).trans (c0 0 _ rfl)
        have d1 := (hbr.cell (p := ⟨b, off + k * 6 + 1, none⟩) hb).trans (c0 1 _ rfl)
        have d2 := (hbr.cell (p := ⟨b, off + k * 6 + 2, none⟩) hb).trans (c0 2 _ rfl)
        have d3 := (hbr.cell (p := ⟨b, off + k * 6 + 3, none⟩) hb).trans (c0 3 _ rfl)
        have d4 := (hbr.cell (p := ⟨b, off + k * 6 + 4, none⟩) hb).trans (c0 4 _ rfl)
        have d5 := (hbr.cell (p := ⟨b, off + k * 6 + 5, none⟩) hb).trans (c0 5 _ rfl)
        clear c0 hz
        have hltz : (k : Int) < (l.length : Int) := by omega
        cases hp : p r with
        | true =>
          rw [hp] at cF htk
          have HA : Hid (l.any p = true) := Lib.hid (by rw [List.any_eq_true]; exact ⟨r, List.mem_of_getElem? hr, hp⟩)
          clear hp hr htk
          go_wp2_with (go_at_call 22; go_loud (((with_reducible refine cF.mono ?_); rintro e w1 ⟨rfl, h⟩; have y := hbr.trans (h.mono hbr.size))))
          go_ret
          exact ⟨(k : Int), rfl, by rw [HA.out]; exact decide_eq_true (by omega), y⟩
        | false =>
          rw [hp] at cF htk
          have HT2 := Lib.hid htk
          clear hp hr htk
          go_wp2_with (go_at_call 22; go_loud (((with_reducible refine cF.mono ?_); rintro e w1 ⟨rfl, h⟩; have y := hbr.trans (h.mono hbr.size))))
          go_roundg g'
          case measure => omega
          case rel => exact ⟨k + 1, by omega, by go_num, y, HT2⟩
      · have HA : Hid (l.any p = false) := Lib.hid (by have := HT.out; rwa [List.take_of_length_le (by omega)] at this)
        go_wp2_with fail
        go_ret
        exact ⟨-1, rfl, by rw [HA.out]; rfl, hbr⟩
  go_enter Tryz.func21, Tryz.ntmps21
  go_wp2_with (go_at_call 37; go_loud (((with_reducible refine cI.mono ?_); rintro e w1 ⟨k, rfl, hk, h⟩; have HK := Lib.hid hk; clear hk)))
  go_ret
  exact ⟨by rw [← HK.out]; rfl, h⟩

set_option maxRecDepth 100000 in
set_option maxHeartbeats 4000000 in
theorem contK3_any (ao : Option Addr) (cap : Nat) (l : List KeyP) (vs : Nat → List Value) (p : KeyP → Bool) (q1 q2 q3 : Value) (w : World) (hlm : l.length ≤ 9223372036854775807) (hcell : ∀ (j : Nat) (t : KeyP), l[j]? = some t → ∃ b off, ao = some ⟨b, off, none⟩ ∧ b < w.heap.size ∧ ∀ (i : Nat) (u : Value), (vs j)[i]? = some u → w.cell? ⟨b, off + j * 6 + i, none⟩ = some u)
    (cF : ∀ (j : Nat) (t : KeyP) (W : World), l[j]? = some t → Below w.heap.size w W → (∃ a b c d e f, vs j = [a, b, c, d, e, f]) ∧ Calls Tryz.prog 23 #[.agg (vs j).toArray, q1, q2, q3] W fun e w' => e = .returned (.bool (p t)) ∧ Below W.heap.size W w') :
    Calls Tryz.prog 21 #[.slice ao l.length cap, .func (.func 23) #[] #[q1, q2, q3]] w fun e w' => e = .returned (.bool (l.any p)) ∧ Below w.heap.size w w' := by
  have HC := Lib.hid hcell
  have HF := Lib.hid cF
  clear hcell cF
  have cI : Calls Tryz.prog 37 #[.slice ao l.length cap, .func (.func 23) #[] #[q1, q2, q3]] w fun e w' => ∃ k : Int, e = .returned (.int .i64 k) ∧ (decide (0 ≤ k) = l.any p) ∧ Below w.heap.size w w' := by
    go_enter Tryz.func37, Tryz.ntmps37
    go_wp2_with fail
    go_loopg [5, 8] l.length (fun g s5 s8 wr => ∃ k : Nat, k + g = l.length ∧ s8 = .int .i64 (k : Int) ∧ Below w.heap.size w wr ∧ Hid ((l.take k).any p = false))
    case atStart => exact ⟨0, by omega, rfl, Below.refl _ _, Lib.hid rfl⟩
    case round =>
      obtain ⟨k, hk, rfl, hbr, HT⟩ := hrel
      by_cases hlt : k < l.length
      · obtain ⟨g', rfl⟩ : ∃ g', gk = g' + 1 := ⟨gk - 1, by omega⟩
        obtain ⟨r, hr⟩ : ∃ r, l[k]? = some r := ⟨l[k], List.getElem?_eq_getElem hlt⟩
        have htk : (l.take (k + 1)).any p = ((l.take k).any p || p r) := by rw [List.take_add_one, hr]; simp
        rw [HT.out, Bool.false_or] at htk
        obtain ⟨b, off, rfl, hb, c0⟩ := HC.out k r hr
        obtain ⟨⟨z0, z1, z2, z3, z4, z5, hz⟩, cF⟩ := HF.out k r wr hr hbr
        rw [hz] at c0 cF
        have d0 := (hbr.cell (p := ⟨b, off + k * 6, none⟩) hb).trans (c0 0 _ rfl)
        have d1 := (hbr.cell (p := ⟨b, off + k * 6 + 1, none⟩) hb).trans (c0 1 _ rfl)
        have d2 := (hbr.cell (p := ⟨b, off + k * 6 + 2, none⟩) hb).trans (c0 2 _ rfl)
        have d3 := (hbr.cell (p := ⟨b, off + k * 6 + 3, none⟩) hb).trans (c0 3 _ rfl)
        have d4 := (hbr.cell (p := ⟨b, off + k * 6 + 4, none⟩) hb).trans (c0 4 _ rfl)
        have d5 := (hbr.cell (p := ⟨b, off + k * 6 + 5, none⟩) hb).trans (c0 5 _ rfl)
        clear c0 hz
        have hltz : (k : Int) < (l.length : Int) := by omega
        cases hp : p r with
        | true =>
          rw [hp] at cF htk
          have HA : Hid (l.any p = true) := Lib.hid (by rw [List.any_eq_true]; exact ⟨r, List.mem_of_getElem? hr, hp⟩)
          clear hp hr htk
          go_wp2_with (go_at_call 23; go_loud (((with_reducible refine cF.mono ?_); rintro e w1 ⟨rfl, h⟩; have y := hbr.trans (h.mono hbr.size))))
          go_ret
          exact ⟨(k : Int), rfl, by rw [HA.out]; exact decide_eq_true (by omega), y⟩
        | false =>
          rw [hp] at cF htk
          have HT2 := Lib.hid htk
          clear hp hr htk
          go_wp2_with (go_at_call 23; go_loud (((with_reducible refine cF.mono ?_); rintro e w1 ⟨rfl, h⟩; have y := hbr.trans (h.mono hbr.size))))
          go_roundg g'
          case measure => omega
          case rel => exact ⟨k + 1, by omega, by go_num, y, HT2⟩
      · have HA : Hid (l.any p = false) := Lib.hid (by have := HT.out; rwa [List.take_of_length_le (by omega)] at this)
        go_wp2_with fail
        go_ret
        exact ⟨-1, rfl, by rw [HA.out]; rfl, hbr⟩
  go_enter Tryz.func21, Tryz.ntmps21
  go_wp2_with (go_at_call 37; go_loud (((with_reducible refine cI.mono ?_); rintro e w1 ⟨k, rfl, hk, h⟩; have HK := Lib.hid hk; clear hk)))
  go_ret
  exact ⟨by rw [← HK.out]; rfl, h⟩

end Go.Proofs.YtmhidmkomljjjaaGreatDoor
