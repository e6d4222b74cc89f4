/- The walk over the statement HouseWants: it returns true. Conditions: utf8's two tables, bytealg.MaxLen, errors.errorType, flags.system lie as the program's text lays them. -/
import Derived.Test.YtmamadapgfpelaaGreatDoorHouT
namespace Go.Proofs.YtmamadapgfpelaaGreatDoor
open Go.RowKit Go.Shelf Go.Sort Go.Maps
set_option linter.unusedSimpArgs false

theorem want_none {p : HouP} {s : Bs} (on : Bool) (h : hnameF s = none) : wantP p s on = (some 1, p) := by
  unfold wantP hwantF
  rw [h]
theorem want_off {p : HouP} {s n : Bs} (h : hnameF s = some n) (hn : n ∉ p.W) : wantP p s false = (some 7, p) := by
  unfold wantP hwantF
  rw [h]
  simp only [if_neg hn, if_true]
theorem want_del {p : HouP} {s n : Bs} (h : hnameF s = some n) (hn : p.W = [n]) : wantP p s false = (none, { p with W := [] }) := by
  unfold wantP hwantF
  rw [h, hn]
  simp [delS]
theorem want_on {p : HouP} {s n : Bs} (h : hnameF s = some n) (hn : p.W = [] ∨ p.W = [n]) : wantP p s true = (none, { p with W := [n] }) := by
  unfold wantP hwantF
  rw [h]
  rcases hn with hn | hn
  · rw [hn]; simp [insS]
  · rw [hn]; simp [insS]
/-- what the walk needs of a world -/
def WG (w : World) : Prop := HC w ∧ FlagG w
theorem WG.below {w w' : World} (h : WG w) (hb : Below w.heap.size w w') : WG w' := ⟨h.1.below hb, h.2.below hb⟩
theorem one_row (w : World) (a : Bs) : SRow (w.alloc (.cells #[.string ⟨a.toArray⟩] 9)) (.slice (some ⟨w.heap.size, 0, none⟩) 1 1) [a] := by
  have x := World.heap_alloc_new w (.cells #[.string ⟨a.toArray⟩] 9)
  refine ⟨_, 1, rfl, Nat.le_refl _, ⟨by decide, fun h => by cases h⟩, fun j t hj => ⟨w.heap.size, 0, rfl, by rw [alloc_size]; omega, ?_⟩⟩
  rw [Nat.zero_add, Lib.cell_of_heap x]
  match j, hj with
  | 0, hj => cases hj; rfl
  | j + 1, hj => simp at hj
set_option maxRecDepth 100000 in
set_option maxHeartbeats 8000000 in
theorem houseWants_any (v : Value) (l : List DeedP) (s : Bs) (w : World) (hv : DRow w v l) (ht : ∀ x ∈ l, x.s.length ≤ 9223372036854775807 ∧ x.t.length ≤ 9223372036854775807) (hs : s.length ≤ 9223372036854775807) (hC : HC w) (hF : FlagG w) :
    Calls Tryz.prog 3 #[v, .string ⟨s.toArray⟩] w fun e w' => e = .returned (.bool true) ∧ Below w.heap.size w w' := by
  have cS := smallD_any v l w hv ht
  have ts := text_size s
  cases hsm : smallD l with
  | false =>
    rw [hsm] at cS
    clear hv ht hC hF hsm
    go_enter Tryz.func3, Tryz.ntmps3
    go_wp2_with (go_at_call 4; (with_reducible refine cS.mono ?_); rintro e w' ⟨rfl, rfl⟩)
    go_ret
    exact ⟨rfl, Below.refl _ _⟩
  | true =>
  rw [hsm] at cS
  by_cases h100 : (100 : Int) < (s.length : Int)
  · clear hv ht hC hF hsm
    go_enter Tryz.func3, Tryz.ntmps3
    go_wp2_with (go_at_call 4; (with_reducible refine cS.mono ?_); rintro e w' ⟨rfl, rfl⟩)
    go_ret
    exact ⟨rfl, Below.refl _ _⟩
  obtain ⟨hl40, hsl⟩ := smallD_iff hsm
  have hgl := flagG_lt hF
  have cHd := housed_any w hC
  have hwg : ∀ W, Below w.heap.size w W → WG W := fun W hb => (show WG w from ⟨hC, hF⟩).below hb
  have HWG := Lib.hid hwg
  have HSL := Lib.hid hsl
  obtain ⟨ao, cap, rfl, hcap, ⟨hcm, _⟩, hcell⟩ := hv
  have HC := Lib.hid hcell
  clear hC hF ht hsm hsl hwg hcell
  go_enter Tryz.func3, Tryz.ntmps3
  go_upto_region 5 with (first
    | (go_at_call 4; (with_reducible refine cS.mono ?_); rintro e w' ⟨rfl, rfl⟩)
    | (go_at_call 5; (with_reducible refine cHd.mono ?_); rintro e w1 ⟨rfl, hb1⟩))
  clear cS cHd
  have cNew := hnew_any w1
  obtain ⟨N, hNN⟩ : ∃ N, w1.heap.size = N := ⟨_, rfl⟩
  have hle : w.heap.size ≤ N := hNN ▸ hb1.size
  have hglN : 4 < N := Nat.lt_of_lt_of_le hgl hle
  have hall : ∀ W, Below N w1 W → Below w.heap.size w W := fun W hb => hb1.trans (hb.mono hle)
  have hsz : ∀ W, Below N w1 W → N ≤ W.heap.size := fun W hb => hNN ▸ (hNN.symm ▸ hb : Below w1.heap.size w1 W).size
  have cNew : Calls Tryz.prog 6 #[] w1 fun e w' => ∃ H mb mw, e = .returned (.pointer (some ⟨H, 0, none⟩)) ∧ Hid (Hou N w' H mb mw newP) ∧ Below N w1 w' := cNew.mono (by
    rintro e w' ⟨H, mb, mw, B, rfl, h1, h2⟩
    rw [← hNN]
    exact ⟨H, mb, mw, rfl, new_hou h1, h2⟩)
  have HALL := Lib.hid hall
  have HSZ := Lib.hid hsz
  clear hall hsz hgl
  go_upto_region 8 with (go_at_call 6; (with_reducible refine cNew.mono ?_); rintro e w2 ⟨H, mb, mw, rfl, hh2, hb2⟩)
  clear cNew
  have hs1 : s.length ≤ 1000000 := by omega
  have cN := hname_any s w2 hs1 (HWG.out w2 (HALL.out w2 hb2)).1.1
  have cWant : ∀ W p (a : Bs) on r, Hou N W H mb mw p → InB p 3000000000 → Below N w1 W → a.length ≤ 1000000 → wantP p a on = r → Calls Tryz.prog 9 #[.pointer (some ⟨H, 0, none⟩), .string ⟨a.toArray⟩, .bool on] W (DoneS N W H mb mw r) := fun W p a on r hh hB hb ha hr => hr ▸ pwant_any N H mb mw p a on W hh hB (HSZ.out W hb) ha (HWG.out W (HALL.out W hb)).1.1
  have cTell : ∀ W (k : Nat), Below N w1 W → Calls Tryz.prog 8 #[.iface 31 (.int .i64 (k : Int))] W fun e w' => e = .returned (.int .i64 (k : Int)) ∧ Below W.heap.size W w' := fun W k hb => tell_errno (k : Int) W (HWG.out W (HALL.out W hb)).1.2
  have HCW := Lib.hid cWant
  have HCT := Lib.hid cTell
  clear cWant cTell
  have hnew : InB newP 3000000000 := new_inB.mono (by decide)
  have hst : ∀ W, Below w2.heap.size w2 W → Below N w1 W := fun W h => hb2.trans (h.mono (HSZ.out w2 hb2))
  cases hn : hnameF s with
  | none =>
    rw [hn] at cN
    have cN : Calls Tryz.prog 7 #[.string ⟨s.toArray⟩] w2 fun e w' => e = .returned (.tuple #[.string ⟨#[]⟩, .iface 31 (.int .i64 1)]) ∧ Below w2.heap.size w2 w' := cN
    have cW : ∀ W, Below w2.heap.size w2 W → Calls Tryz.prog 9 #[.pointer (some ⟨H, 0, none⟩), .string ⟨s.toArray⟩, .bool true] W fun e w' => e = .returned (.iface 31 (.int .i64 1)) ∧ Hou N w' H mb mw newP ∧ Below N W w' := fun W h => HCW.out W newP s true (some 1, newP) (hh2.out.below h) hnew (hb2.trans (h.mono (HSZ.out w2 hb2))) hs1 (want_none true hn)
    have cT : ∀ W, Below N w1 W → Calls Tryz.prog 8 #[.iface 31 (.int .i64 1)] W fun e w' => e = .returned (.int .i64 1) ∧ Below W.heap.size W w' := fun W hb => HCT.out W 1 hb
    clear hn
    go_wp2_with (first
      | (go_at_call 7; (with_reducible refine cN.mono ?_); rintro e w3 ⟨rfl, hb3⟩)
      | (go_at_call 9; (with_reducible refine (cW _ hb3).mono ?_); rintro e w4 ⟨rfl, -, hb4⟩; have hb4 := (hst _ hb3).trans hb4)
      | (go_at_call 8; (with_reducible refine (cT _ hb4).mono ?_); rintro e w5 ⟨rfl, hb5⟩))
    go_ret
    exact ⟨rfl, HALL.out _ (hb4.trans (hb5.mono (HSZ.out _ hb4)))⟩
  | some n =>
    rw [hn] at cN
    have cN : Calls Tryz.prog 7 #[.string ⟨s.toArray⟩] w2 fun e w' => e = .returned (.tuple #[.string ⟨n.toArray⟩, .nilIface]) ∧ Below w2.heap.size w2 w' := cN
    have cW1 : ∀ W, Below w2.heap.size w2 W → Calls Tryz.prog 9 #[.pointer (some ⟨H, 0, none⟩), .string ⟨s.toArray⟩, .bool false] W fun e w' => e = .returned (.iface 31 (.int .i64 7)) ∧ Hou N w' H mb mw newP ∧ Below N W w' := fun W h => HCW.out W newP s false (some 7, newP) (hh2.out.below h) hnew (hst W h) hs1 (want_off hn (fun h => by cases h))
    have cT : ∀ W, Below N w1 W → Calls Tryz.prog 8 #[.iface 31 (.int .i64 7)] W fun e w' => e = .returned (.int .i64 7) ∧ Below W.heap.size W w' := fun W hb => HCT.out W 7 hb
    have cW2 : ∀ W, Hou N W H mb mw newP → Below N w1 W → Calls Tryz.prog 9 #[.pointer (some ⟨H, 0, none⟩), .string ⟨s.toArray⟩, .bool true] W fun e w' => e = .returned .nilIface ∧ Hou N w' H mb mw { newP with W := [n] } ∧ Below N W w' := fun W h hb => HCW.out W newP s true (none, { newP with W := [n] }) h hnew hb hs1 (want_on hn (Or.inl rfl))
    have hin1 : InB { newP with W := [n] } 2 := { new_inB with wants := by show 1 ≤ 60; decide }
    have HN := Lib.hid hn
    have HIN1 := Lib.hid hin1
    have hnl : n.length ≤ 1000000 := by have := (hnameF_len hn).1; omega
    clear hn hin1
    go_upto_region 13 with (first
      | (go_at_call 7; (with_reducible refine cN.mono ?_); rintro e w3 ⟨rfl, hb3⟩)
      | (go_at_call 9; (with_reducible refine (cW1 _ hb3).mono ?_); rintro e w4 ⟨rfl, hh4, hb4⟩; have hb4 := (hst _ hb3).trans hb4)
      | (go_at_call 8; (with_reducible refine (cT _ hb4).mono ?_); rintro e w5 ⟨rfl, hb5⟩; have hh5 := hh4.below hb5; have hb5 := hb4.trans (hb5.mono (HSZ.out _ hb4)))
      | (go_at_call 9; (with_reducible refine (cW2 _ hh5 hb5).mono ?_); rintro e w6 ⟨rfl, hh6, hb6⟩; have hb6 := hb5.trans hb6))
    clear cN cW1 cW2 hh4 hh5 hb3 hb4 hb5 hst hnew hb2 hh2
    have cL : ∀ W p L, Hou N W H mb mw p → InB p 3000000000 → p.W = L → Calls Tryz.prog 12 #[.pointer (some ⟨H, 0, none⟩), .string ⟨#[42]⟩, .bool true] W fun e w' => ∃ ao cap, e = .returned (.slice ao L.length cap) ∧ SRow w' (.slice ao L.length cap) L ∧ Below W.heap.size W w' := fun W p L hh hB hL => (plist_any N H mb mw p W true hh hB).mono (by
      rintro e w' ⟨v, rfl, hrow, hb⟩
      rw [if_pos rfl, hL] at hrow
      obtain ⟨ao, cap, rfl⟩ := owns_val hrow
      exact ⟨ao, cap, rfl, hsrow_owns hrow, hb⟩)
    have cE : ∀ W a q, SRow W (.slice a 1 q) [n] → Calls Tryz.prog 11 #[.slice a 1 q, .slice (some ⟨W.heap.size, 0, none⟩) 1 1] (W.alloc (.cells #[.string ⟨n.toArray⟩] 9)) fun e w' => e = .returned (.bool true) ∧ Below W.heap.size W w' := fun W a q hv => by
      have hy := (Below.refl W.heap.size W).alloc (Nat.le_refl _) (.cells #[.string ⟨n.toArray⟩] 9)
      refine (heq_any _ _ [n] _ _ (hv.below hy) (one_row W n) (by simp) (by simp)).mono ?_
      rintro e w' ⟨rfl, hb⟩
      rw [decide_eq_true rfl]
      exact ⟨rfl, hy.trans (hb.mono hy.size)⟩
    have HCL := Lib.hid cL
    have HCE := Lib.hid cE
    have HH6 := Lib.hid hh6
    clear cL cE hh6
    go_wp2_with fail
    go_loopg [8] l.length (fun g s8 wr => ∃ (k : Nat) (p : HouP), k + g = l.length ∧ s8 = .int .i64 (k : Int) ∧ Hid (Hou N wr H mb mw p) ∧ Hid (InB p (2 + 31 * (k : Int))) ∧ Hid (p.W = [n]) ∧ Hid (Below N w1 wr))
    case atStart => exact ⟨0, _, by omega, rfl, HH6.out, HIN1.out, rfl, hb6⟩
    case round =>
      obtain ⟨k, p, hk, rfl, HH, HI, HW, HB⟩ := hrel
      clear HH6 HIN1 hb6
      have HI3 : Hid (InB p 3000000000) := Lib.hid (HI.out.mono (by omega))
      by_cases hlt : k < l.length
      · obtain ⟨g', rfl⟩ : ∃ g', gk = g' + 1 := ⟨gk - 1, by omega⟩
        obtain ⟨x, hx⟩ : ∃ x, l[k]? = some x := ⟨l[k], List.getElem?_eq_getElem hlt⟩
        obtain ⟨b, off, rfl, hb, c0, c1, c2, c3⟩ := HC.out k x hx
        have hbr := HALL.out wr HB.out
        have d0 := (hbr.cell (p := ⟨b, off + k * 4, none⟩) hb).trans c0
        have d1 := (hbr.cell (p := ⟨b, off + k * 4 + 1, none⟩) hb).trans c1
        have d2 := (hbr.cell (p := ⟨b, off + k * 4 + 2, none⟩) hb).trans c2
        have d3 := (hbr.cell (p := ⟨b, off + k * 4 + 3, none⟩) hb).trans c3
        have hbW : b < wr.heap.size := Nat.lt_of_lt_of_le hb hbr.size
        have hkz : (k : Int) < (l.length : Int) := by omega
        by_cases h3 : x.what = 3
        · rw [h3] at d0
          clear hx c0 c1 c2 c3 hbr
          go_wp2_with fail
          go_roundg g'
          case measure => omega
          case rel => exact ⟨k + 1, p, by omega, by go_num, HH.out, HI.out.mono (by omega), HW.out, HB.out⟩
        · have hxs := HSL.out x (List.mem_of_getElem? hx)
          have cD := deed_any N H mb mw p x wr HH.out HI3.out (HSZ.out wr HB.out) (by omega) (by omega) (HWG.out wr hbr).1.1 (HWG.out wr hbr).2 hglN
          have hID : InB (deedP p x).2 (2 + 31 * ((k + 1 : Nat) : Int)) := (HI.out.deed (sorts_hou HH.out).1 (sorts_hou HH.out).2 x).mono (by omega)
          have hWD : (deedP p x).2.W = [n] := (deed_W h3).trans HW.out
          obtain ⟨r, hr⟩ : ∃ r, deedP p x = r := ⟨_, rfl⟩
          rw [hr] at cD hID hWD
          have HID := Lib.hid hID
          have HWD := Lib.hid hWD
          clear hx c0 c1 c2 c3 hbr hr hID hWD hxs
          go_wp2_with (first
            | (go_at_call 10; (with_reducible refine cD.mono ?_); rintro e w3 ⟨rfl, hh3, hb3⟩; have hb3 := HB.out.trans hb3; have cL3 := HCL.out w3 _ [n] hh3 (HID.out.mono (by omega)) HWD.out; have HH3 := Lib.hid hh3; clear hh3)
            | (go_at_call 12; (with_reducible refine cL3.mono ?_); rintro e w4 ⟨a4, q4, rfl, hr4, hb4⟩; have HH4 := Lib.hid (HH3.out.below hb4); have hb4 := hb3.trans (hb4.mono (HSZ.out _ hb3)); have cE4 := HCE.out w4 a4 q4 hr4; clear hr4)
            | (go_at_call 11; go_loud ((with_reducible refine cE4.mono ?_); rintro e w5 ⟨rfl, hb5⟩)))
          go_roundg g'
          case measure => omega
          case rel => exact ⟨k + 1, r.2, by omega, by go_num, HH4.out.below hb5, HID.out, HWD.out, hb4.trans (hb5.mono (HSZ.out _ hb4))⟩
      · have hlen : k = l.length := by omega
        have hna := name_again HN.out
        have cW3 : Calls Tryz.prog 9 #[.pointer (some ⟨H, 0, none⟩), .string ⟨n.toArray⟩, .bool true] wr fun e w' => e = .returned .nilIface ∧ Hou N w' H mb mw { p with W := [n] } ∧ Below N wr w' := HCW.out wr p n true (none, { p with W := [n] }) HH.out HI3.out HB.out hnl (want_on hna (Or.inr HW.out))
        have hi1 : InB { p with W := [n] } 3000000000 := { HI3.out with wants := by show 1 ≤ 60; decide }
        have hi0 : InB { p with W := [] } 3000000000 := { HI3.out with wants := by show 0 ≤ 60; decide }
        have cW4 : ∀ W, Hou N W H mb mw { p with W := [n] } → Below N w1 W → Calls Tryz.prog 9 #[.pointer (some ⟨H, 0, none⟩), .string ⟨s.toArray⟩, .bool false] W fun e w' => e = .returned .nilIface ∧ Hou N w' H mb mw { p with W := [] } ∧ Below N W w' := fun W h hb => HCW.out W _ s false (none, { p with W := [] }) h hi1 hb hs1 (want_del HN.out rfl)
        have cW5 : ∀ W, Hou N W H mb mw { p with W := [] } → Below N w1 W → Calls Tryz.prog 9 #[.pointer (some ⟨H, 0, none⟩), .string ⟨n.toArray⟩, .bool false] W fun e w' => e = .returned (.iface 31 (.int .i64 7)) ∧ Hou N w' H mb mw { p with W := [] } ∧ Below N W w' := fun W h hb => HCW.out W _ n false (some 7, { p with W := [] }) h hi0 hb hnl (want_off hna (fun h => by cases h))
        have cL1 := fun W h => HCL.out W { p with W := [n] } [n] h hi1 rfl
        have cL0 := fun W h => HCL.out W { p with W := [] } [] h hi0 rfl
        clear hna hi1 hi0 HH HI HW HI3 HC
        go_wp2_with (first
          | (go_at_call 9; (with_reducible refine cW3.mono ?_); rintro e w3 ⟨rfl, hh3, hb3⟩; have hb3 := HB.out.trans hb3)
          | (go_at_call 12; (with_reducible refine (cL1 _ hh3).mono ?_); rintro e w4 ⟨a4, q4, rfl, -, hb4⟩; have hh4 := hh3.below hb4; have hb4 := hb3.trans (hb4.mono (HSZ.out _ hb3)))
          | (go_at_call 9; (with_reducible refine (cW4 _ hh4 hb4).mono ?_); rintro e w5 ⟨rfl, hh5, hb5⟩; have hb5 := hb4.trans hb5)
          | (go_at_call 12; (with_reducible refine (cL0 _ hh5).mono ?_); rintro e w6 ⟨a6, q6, rfl, -, hb6⟩; have hh6 := hh5.below hb6; have hb6 := hb5.trans (hb6.mono (HSZ.out _ hb5)))
          | (go_at_call 9; (with_reducible refine (cW5 _ hh6 hb6).mono ?_); rintro e w7 ⟨rfl, hh7, hb7⟩; have hb7 := hb6.trans hb7)
          | (go_at_call 8; (with_reducible refine (cT _ hb7).mono ?_); rintro e w8 ⟨rfl, hb8⟩))
        go_ret
        exact ⟨rfl, HALL.out _ (hb7.trans (hb8.mono (HSZ.out _ hb7)))⟩
end Go.Proofs.YtmamadapgfpelaaGreatDoor
