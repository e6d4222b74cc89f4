/- The walks over a box's Find and what it calls: rows of letters, the search. Condition: none. -/
import Derived.Test.YteabnpahhkicaaaDoorPBox
import Derived.Test.YteabnpahhkicaaaDoorFlagG
import Derived.Deep.RegionHeld3
namespace Go.Proofs.YteabnpahhkicaaaDoor
open Go.RowKit Go.Shelf Go.Sort

/-- a row of letters -/
def LRow (w : World) (v : Value) (l : List Let) : Prop := ∃ ao cap, v = .slice ao l.length cap ∧ l.length ≤ cap ∧ (cap ≤ 9223372036854775807 ∧ (ao = none → cap = 0)) ∧ ∀ (j : Nat) (x : Let), l[j]? = some x → ∃ b off fv, ao = some ⟨b, off, none⟩ ∧ b < w.heap.size ∧ SRow w fv x.flags ∧
  w.cell? ⟨b, off + j * 4, none⟩ = some (.int .i64 x.uid) ∧ w.cell? ⟨b, off + j * 4 + 1, none⟩ = some fv ∧ w.cell? ⟨b, off + j * 4 + 2, none⟩ = some (.int .i64 x.day) ∧ w.cell? ⟨b, off + j * 4 + 3, none⟩ = some (.string ⟨x.text.toArray⟩)
theorem LRow.below {w w' : World} {v : Value} {l : List Let} (h : LRow w v l) (hb : Below w.heap.size w w') : LRow w' v l := by
  obtain ⟨ao, cap, h1, h2, h3, h4⟩ := h
  refine ⟨ao, cap, h1, h2, h3, fun j x hj => ?_⟩
  obtain ⟨b, off, fv, e1, e2, e3, c0, c1, c2, c3⟩ := h4 j x hj
  have hc := fun i => hb.cell (p := ⟨b, i, none⟩) e2
  exact ⟨b, off, fv, e1, Nat.lt_of_lt_of_le e2 hb.size, e3.below hb, (hc _).trans c0, (hc _).trans c1, (hc _).trans c2, (hc _).trans c3⟩
/-- a letter as a value -/
def letV (x : Let) (fv : Value) : Value := .agg #[.int .i64 x.uid, fv, .int .i64 x.day, .string ⟨x.text.toArray⟩]

set_option maxRecDepth 100000 in
set_option maxHeartbeats 1000000 in
theorem fcmp_any (u d n : Int) (fv : Value) (t : ByteArray) (w : World) (hf : fv.cells.size = 1) :
    Calls Tryd.prog 26 #[.agg #[.int .i64 u, fv, .int .i64 d, .string t], .int .i64 n] w fun e w' => e = .returned (.int .i64 (wrap64 (u - n))) ∧ Below w.heap.size w w' := by
  go_enter Tryd.func26, Tryd.ntmps26
  go_wp2_with fail
  go_ret
  exact ⟨rfl, (Below.refl _ _).alloc (Nat.le_refl _) _⟩

theorem wrap_zero {u n : Int} (h1 : 1 ≤ u) (h2 : u ≤ 2147483647) (h3 : -9223372036854775808 ≤ n) (h4 : n ≤ 9223372036854775807) (h : wrap64 (u - n) = 0) : u = n := by
  unfold wrap64 at h
  omega
theorem find_at {l : List Let} {k : Nat} {x : Let} {n : Int} (hp : l.Pairwise (fun x y => x.uid < y.uid)) (hx : l[k]? = some x) (hn : x.uid = n) : findB l n = some k := by
  unfold findB
  rw [List.findIdx?_eq_some_iff_getElem]
  obtain ⟨hk, e⟩ := List.getElem?_eq_some_iff.1 hx
  refine ⟨hk, by rw [e]; simpa using hn, fun j hj => ?_⟩
  have := List.pairwise_iff_getElem.1 hp j k (by omega) hk hj
  rw [e] at this
  simp only [decide_eq_true_eq]
  omega
set_option maxRecDepth 100000 in
set_option maxHeartbeats 8000000 in
theorem bsearch_any (v : Value) (ls : List Let) (n : Int) (w : World) (hv : LRow w v ls) (hl : ls.length ≤ 1000000) (hu : ∀ x ∈ ls, 1 ≤ x.uid ∧ x.uid ≤ 2147483647) (hp : ls.Pairwise (fun x y => x.uid < y.uid)) (hn0 : -9223372036854775808 ≤ n) (hn1 : n ≤ 9223372036854775807) :
    Calls Tryd.prog 25 #[v, .int .i64 n, .func (.func 26) #[] #[]] w fun e w' => ∃ i : Nat, e = .returned (.tuple #[.int .i64 (i : Int), .bool (findB ls n).isSome]) ∧ Hid (∀ k, findB ls n = some k → i = k) ∧ Below w.heap.size w w' := by
  obtain ⟨ao, cap, rfl, hcap, ⟨hcm, _⟩, hcell⟩ := hv
  have HC := Lib.hid hcell
  have HU := Lib.hid hu
  have HP := Lib.hid hp
  have cC := fun u d fv t W h => fcmp_any u d n fv t W h
  clear hcell hu hp
  go_enter Tryd.func25, Tryd.ntmps25
  go_wp2_with fail
  go_loopg [9, 10] ls.length (fun g s9 s10 wr => ∃ i j : Nat, i + g = j ∧ j ≤ ls.length ∧ s9 = .int .i64 (i : Int) ∧ s10 = .int .i64 (j : Int) ∧ Below w.heap.size w wr ∧ Hid (∀ (k : Nat) (x : Let), ls[k]? = some x → x.uid = n → i ≤ k ∧ k ≤ j))
  case atStart => exact ⟨0, ls.length, by omega, Nat.le_refl _, rfl, rfl, Below.refl _ _, fun k x hk _ => ⟨Nat.zero_le _, by have := (List.getElem?_eq_some_iff.1 hk).1; omega⟩⟩
  case round =>
    obtain ⟨i, j, hg, hj, rfl, rfl, hbr, HI⟩ := hrel
    by_cases hlt : i < j
    · have hsum : wrap64 ((i : Int) + (j : Int)) = (i : Int) + (j : Int) := IntWalk.wrap64_in _ (by omega)
      have hltz : (i : Int) < (j : Int) := by omega
      go_upto_region 5 with fail
      obtain ⟨H, hH⟩ : ∃ H, (i + j) / 2 = H := ⟨_, rfl⟩
      have hmid : ((i : Int) + (j : Int)) / 2 = (H : Int) := by omega
      have hHj : H < j := by omega
      have hiH : i ≤ H := by omega
      have hHl : H < ls.length := by omega
      have hHz : (H : Int) < (ls.length : Int) := by omega
      obtain ⟨x, hx⟩ : ∃ x, ls[H]? = some x := ⟨ls[H], List.getElem?_eq_getElem hHl⟩
      obtain ⟨b, off, fv, rfl, hb, hf, d0, d1, d2, d3⟩ := HC.out H x hx
      have hc := fun q => hbr.cell (p := ⟨b, q, none⟩) hb
      have d0 := (hc _).trans d0
      have d1 := (hc _).trans d1
      have d2 := (hc _).trans d2
      have d3 := (hc _).trans d3
      have hux := HU.out x (List.mem_of_getElem? hx)
      obtain ⟨fa, fc, rfl, _⟩ := hf
      have cX := cC x.uid x.day (.slice fa x.flags.length fc) ⟨x.text.toArray⟩ wr rfl
      have HX := Lib.hid hx
      have hg1 : (H : Int) + 1 ≤ 1000000 := by omega
      rw [hmid]
      obtain ⟨c, hcw⟩ : ∃ c, wrap64 (x.uid - n) = c := ⟨_, rfl⟩
      rw [hcw] at cX
      have hstep : Hid ((c < 0 → ∀ (k : Nat) (z : Let), ls[k]? = some z → z.uid = n → H + 1 ≤ k ∧ k ≤ j) ∧ (¬ c < 0 → ∀ (k : Nat) (z : Let), ls[k]? = some z → z.uid = n → i ≤ k ∧ k ≤ H)) := by
        have key : ∀ (k : Nat) (z : Let), ls[k]? = some z → z.uid = n → (k < H → z.uid < x.uid) ∧ (H < k → x.uid < z.uid) ∧ c = x.uid - n := fun k z hz hzn => by
          have huz := HU.out z (List.mem_of_getElem? hz)
          refine ⟨fun h => ?_, fun h => ?_, ?_⟩
          · have := List.pairwise_iff_getElem.1 HP.out k H (List.getElem?_eq_some_iff.1 hz).1 (List.getElem?_eq_some_iff.1 hx).1 h
            rwa [(List.getElem?_eq_some_iff.1 hz).2, (List.getElem?_eq_some_iff.1 hx).2] at this
          · have := List.pairwise_iff_getElem.1 HP.out H k (List.getElem?_eq_some_iff.1 hx).1 (List.getElem?_eq_some_iff.1 hz).1 h
            rwa [(List.getElem?_eq_some_iff.1 hz).2, (List.getElem?_eq_some_iff.1 hx).2] at this
          · rw [← hcw]; exact IntWalk.wrap64_in _ (by omega)
        refine ⟨fun h k z hz hzn => ?_, fun h k z hz hzn => ?_⟩
        · obtain ⟨k1, k2, k3⟩ := key k z hz hzn
          have hi := HI.out k z hz hzn
          refine ⟨?_, hi.2⟩
          rcases Nat.lt_trichotomy k H with q | q | q
          · have := k1 q; omega
          · subst q
            rw [hx] at hz; cases hz; omega
          · omega
        · obtain ⟨k1, k2, k3⟩ := key k z hz hzn
          have hi := HI.out k z hz hzn
          refine ⟨hi.1, ?_⟩
          rcases Nat.lt_or_ge H k with q | q
          · have := k2 q; omega
          · exact q
      clear hc hx hH hmid hsum hux hcw HX
      by_cases hc0 : c < 0
      · go_wp2_with (go_at_call 26; go_loud ((with_reducible refine cX.mono ?_); rintro e w1 ⟨rfl, h⟩; have y := hbr.trans (h.mono hbr.size)))
        go_roundg (j - (H + 1))
        case measure => omega
        case rel => exact ⟨H + 1, j, by omega, hj, by go_num, rfl, y, hstep.out.1 hc0⟩
      · clear hg1
        go_wp2_with (go_at_call 26; go_loud ((with_reducible refine cX.mono ?_); rintro e w1 ⟨rfl, h⟩; have y := hbr.trans (h.mono hbr.size)))
        go_roundg (H - i)
        case measure => omega
        case rel => exact ⟨i, H, by omega, by omega, rfl, rfl, y, hstep.out.2 hc0⟩
    · obtain rfl : i = j := by omega
      have hres : ∀ k, findB ls n = some k → i = k := fun k hk => by
        obtain ⟨x, hx, hxn⟩ := findB_some hk
        have := HI.out k x hx hxn
        omega
      by_cases hil : i < ls.length
      · have hiz : (i : Int) < (ls.length : Int) := by omega
        obtain ⟨x, hx⟩ : ∃ x, ls[i]? = some x := ⟨ls[i], List.getElem?_eq_getElem hil⟩
        obtain ⟨b, off, fv, rfl, hb, hf, d0, d1, d2, d3⟩ := HC.out i x hx
        have hc := fun q => hbr.cell (p := ⟨b, q, none⟩) hb
        have d0 := (hc _).trans d0
        have d1 := (hc _).trans d1
        have d2 := (hc _).trans d2
        have d3 := (hc _).trans d3
        have hux := HU.out x (List.mem_of_getElem? hx)
        obtain ⟨fa, fc, rfl, _⟩ := hf
        have cX := cC x.uid x.day (.slice fa x.flags.length fc) ⟨x.text.toArray⟩ wr rfl
        by_cases he : x.uid = n
        · have hf2 : Hid (findB ls n = some i) := find_at HP.out hx he
          have hw0 : wrap64 (x.uid - n) = 0 := by rw [he, Int.sub_self]; exact IntWalk.wrap64_in _ (by omega)
          rw [hw0] at cX
          clear hc hx hux hw0 hres HI cC he
          go_wp2_with (go_at_call 26; go_loud ((with_reducible refine cX.mono ?_); rintro e w1 ⟨rfl, h⟩; have y := hbr.trans (h.mono hbr.size)))
          go_ret2
          exact ⟨i, by rw [hf2.out]; rfl, fun k hk => (by rw [hf2.out] at hk; cases hk; rfl), y⟩
        · have hf2 : Hid (findB ls n = none) := by
            show _ = _
            cases hf : findB ls n with
            | none => rfl
            | some k =>
              obtain ⟨z, hz, hzn⟩ := findB_some hf
              obtain rfl := hres k hf
              rw [hx] at hz; cases hz
              exact absurd hzn he
          obtain ⟨c, hcw⟩ : ∃ c, wrap64 (x.uid - n) = c := ⟨_, rfl⟩
          have hcne : ¬ c = 0 := fun e => he (wrap_zero (by omega) (by omega) hn0 hn1 (hcw.trans e))
          have hcb : (c == 0) = false := by rw [beq_eq_false_iff_ne]; exact hcne
          rw [hcw] at cX
          clear hc hx hux hcw hres HI cC he
          go_wp2_with (go_at_call 26; go_loud ((with_reducible refine cX.mono ?_); rintro e w1 ⟨rfl, h⟩; have y := hbr.trans (h.mono hbr.size)))
          go_ret2
          exact ⟨i, by rw [hf2.out]; rfl, fun k hk => (by rw [hf2.out] at hk; cases hk), y⟩
      · have hnone : findB ls n = none := by
          cases hf : findB ls n with
          | none => rfl
          | some k =>
            obtain ⟨x, hx, hxn⟩ := findB_some hf
            have := (List.getElem?_eq_some_iff.1 hx).1
            have := HI.out k x hx hxn
            omega
        have hiz : ¬ ((i : Int) < (ls.length : Int)) := by omega
        have HN := Lib.hid hnone
        clear hres HI cC hnone
        go_wp2_with fail
        go_ret2
        exact ⟨i, by rw [HN.out]; rfl, fun k hk => (by rw [HN.out] at hk; cases hk), hbr⟩

/-- a box lies in a block -/
def BoxAt (w : World) (B : Nat) (b : BoxP) : Prop := ∃ lv, w.heap[B]? = some (.cells #[.int .i64 b.valid, .int .i64 b.next, lv] 29 (0, 0)) ∧ LRow w lv b.ls
/-- a box's letters' numbers rise, and are numbers -/
def Rising (l : List Let) : Prop := (∀ x ∈ l, 1 ≤ x.uid ∧ x.uid ≤ 2147483647) ∧ l.Pairwise fun x y => x.uid < y.uid
theorem rising_of {b : BoxP} (h : rightB b = true) : Rising b.ls := by
  unfold rightB numB maxN at h
  simp only [Bool.and_eq_true, decide_eq_true_eq] at h
  obtain ⟨h1, h2⟩ := rightL_lt h.1.1.1
  refine ⟨fun x hx => ?_, h1⟩
  obtain ⟨k, hk⟩ := List.getElem?_of_mem hx
  have := letOk_iff.1 (rightL_at h.1.1.1 hk)
  omega
set_option maxRecDepth 100000 in
set_option maxHeartbeats 2000000 in
theorem find_any_box (B : Nat) (b : BoxP) (n : Int) (w : World) (hb : BoxAt w B b) (hr : Rising b.ls) (hl : b.ls.length ≤ 1000000) (hn0 : -9223372036854775808 ≤ n) (hn1 : n ≤ 9223372036854775807) :
    Calls Tryd.prog 10 #[.pointer (some ⟨B, 0, none⟩), .int .i64 n] w fun e w' => ∃ i : Nat, e = .returned (.tuple #[.int .i64 (i : Int), .bool (findB b.ls n).isSome]) ∧ Hid (∀ k, findB b.ls n = some k → i = k) ∧ Below w.heap.size w w' := by
  obtain ⟨lv, hB, hv⟩ := hb
  have cS := bsearch_any lv b.ls n w hv hl hr.1 hr.2 hn0 hn1
  obtain ⟨ao, cap, rfl, _⟩ := hv
  have d2 : w.cell? ⟨B, 2, none⟩ = some (.slice ao b.ls.length cap) := by rw [Lib.cell_of_heap hB]; rfl
  obtain ⟨R, hR⟩ : ∃ R, (findB b.ls n).isSome = R := ⟨_, rfl⟩
  rw [hR] at cS ⊢
  clear hR hr hB
  go_enter Tryd.func10, Tryd.ntmps10
  go_wp2_with (go_at_call 25; go_loud ((with_reducible refine cS.mono ?_); rintro e w1 ⟨i, rfl, hi, h⟩))
  go_ret2
  exact ⟨i, rfl, hi.out, h⟩
end Go.Proofs.YteabnpahhkicaaaDoor
