/- The walk over a box's Append where it puts a letter behind all others. Condition: flags.system lies as the program's text lays it. The walk over a box's Flag. Condition: flags.system lies as the program's text lays it. The walks over a box's Append and Flag, whatever comes of it; where the letters lie then. Condition: flags.system lies as the program's text lays it. -/
import Derived.ArgAppend
import Derived.Laws.OwnMore
import Derived.Test.YteclajckkjocnaaGreatDoorPkBoxF
import Derived.Test.YteclajckkjocnaaGreatDoorPkFlagG
import Derived.Test.YteclajckkjocnaaGreatDoorPkPFollow
namespace Go.Proofs.YteclajckkjocnaaGreatDoor
open Go.RowKit Go.Shelf Go.Sort
set_option linter.unusedSimpArgs false
theorem FlagG.kept {w w' : World} {S : Nat → Prop} (h : FlagG w) (hk : Kept S w w') (hs : ¬ S 0) : FlagG w' := h.elim fun T h => ⟨T, hk.obj h hs⟩
theorem app_inv {b : BoxP} {l : List (List UInt8)} {day : Int} {text : List UInt8} {n : Int} (h : (appB b l day text).1 = .inr n) :
    ∃ f, setF l = .inr f ∧ text.length ≤ 2000 ∧ 0 ≤ day ∧ day ≤ 2147483647 ∧ b.ls.length < 60 ∧ b.next < 2147483647 ∧ n = b.next ∧ (appB b l day text).2 = { b with next := b.next + 1, ls := b.ls ++ [⟨b.next, f, day, text⟩] } := by
  unfold appB maxN at *
  by_cases h1 : 2000 < text.length
  · rw [if_pos h1] at h; cases h
  · rw [if_neg h1] at h ⊢
    cases hs : setF l with
    | inl m => rw [hs] at h; cases h
    | inr f =>
      rw [hs] at h
      simp only at h ⊢
      by_cases h2 : day < 0 ∨ 2147483647 < day
      · rw [if_pos h2] at h; cases h
      · rw [if_neg h2] at h ⊢
        by_cases h3 : 60 ≤ b.ls.length ∨ 2147483647 ≤ b.next
        · rw [if_pos h3] at h; cases h
        · rw [if_neg h3] at h ⊢
          refine ⟨f, rfl, by omega, by omega, by omega, by omega, by omega, ?_, rfl⟩
          cases h; rfl
set_option maxRecDepth 100000 in
set_option maxHeartbeats 4000000 in
theorem app_goodF (N B : Nat) (b : BoxP) (l : List (List UInt8)) (fv : Value) (day : Int) (text : List UInt8) (n : Int) (w : World) (hb : BoxS N w B b) (hN : N ≤ B) (hf : SRow w fv l) (hl : Short l) (hG : FlagG w) (hok : (appB b l day text).1 = .inr n) (hnx : 0 ≤ b.next) :
    Calls Tryz.prog 24 #[.pointer (some ⟨B, 0, none⟩), fv, .int .i64 day, .string ⟨text.toArray⟩] w fun e w' => e = .returned (.tuple #[.int .i64 n, .nilIface]) ∧ BoxS N w' B (appB b l day text).2 ∧ Kept (fun k => k = B) w w' ∧ FreshL w w' B := by
  obtain ⟨f, hs, ht, hd0, hd1, hll, hnn, rfl, hbox⟩ := app_inv hok
  rw [hbox]
  have hsp := fun (w' : World) (hb : BoxAt w' B b) => spares_box hb hN
  obtain ⟨lv, zs, hB, hzs, hz, hsv, hsz⟩ := hb
  have hzl : zs.length < 60 := by rw [← hzs, List.length_map] at hll; exact hll
  have cS := set_is2 hs fv w hf hl hG
  obtain ⟨i0, hi, hi0, hi1, hi2⟩ := info_parts let_info
  have hz' := hz
  obtain ⟨ao, cap, rfl, hcap, ⟨hcm, hnone⟩, hfl, hcell⟩ := hz'
  have hBl : B < w.heap.size := (Array.getElem?_eq_some_iff.1 hB).1
  have d1 : w.cell? ⟨B, 1, none⟩ = some (.int .i64 b.next) := by rw [Lib.cell_of_heap hB]; rfl
  have d2 : w.cell? ⟨B, 2, none⟩ = some (.slice ao zs.length cap) := by rw [Lib.cell_of_heap hB]; rfl
  have hts := text_size text
  have h2z : ¬ ((2000 : Int) < (text.length : Int)) := by omega
  have hd0' : ¬ day < 0 := by omega
  have hd1' : ¬ 2147483647 < day := by omega
  have hq1 : ¬ ((60 : Int) ≤ (zs.length : Int)) := by omega
  have hq2 : ¬ (2147483647 ≤ b.next) := by omega
  have cC := fun W => clip_any ao zs.length cap W hcap hcm hnone
  have HC := Lib.hid hcell
  have HF := Lib.hid hfl
  have HB := Lib.hid hB
  have HZ := Lib.hid hz
  have HL := Lib.hid (cellsL_len zs)
  have hnone2 : ao = none → zs.length = 0 ∧ zs.length = 0 := fun e => by have := hnone e; omega
  have hpre : ∀ w1 sa sc, Below w.heap.size w w1 → Hid (∀ p, ao = some p → ∀ j u, (cellsL zs)[j]? = some u → (w1.alloc (.cells #[.int .i64 b.next, .slice sa f.length sc, .int .i64 day, .string ⟨text.toArray⟩] 51)).cell? (p.add j) = some u) ∧
      Hid (∀ j u, (cells1 (⟨b.next, f, day, text⟩, .slice sa f.length sc))[j]? = some u → (w1.alloc (.cells #[.int .i64 b.next, .slice sa f.length sc, .int .i64 day, .string ⟨text.toArray⟩] 51)).cell? ((⟨w1.heap.size, 0, none⟩ : Addr).add j) = some u) ∧
      Hid (∀ u ∈ cells1 (⟨b.next, f, day, text⟩, .slice sa f.length sc), u.oneCell' = true) := by
    intro w1 sa sc h
    refine ⟨fun p hp j u hj => ?_, fun j u hj => ?_, fun u hu => ?_⟩
    · obtain ⟨b', off, e1, e2, c⟩ := hcell j u hj
      rw [hp] at e1
      cases e1
      rw [add_pl]
      exact ((h.alloc h.size _).cell e2).trans c
    · rw [add_pl, Nat.zero_add, Lib.cell_of_heap (World.heap_alloc_new w1 _)]
      simpa [cells1] using hj
    · simp only [cells1, List.mem_cons, List.not_mem_nil, or_false] at hu
      rcases hu with rfl | rfl | rfl | rfl <;> rfl
  have HPRE := Lib.hid hpre
  have HN2 := Lib.hid hnone2
  clear hok hbox hs hcell hfl hB hz ht hpre hnone2 hcap hnone
  go_enter Tryz.func24, Tryz.ntmps24
  go_wp2_with (first
    | (go_at_call 16; go_loud ((with_reducible refine cS.mono ?_); rintro e w1 ⟨sa, sc, rfl, HT, h⟩; have d1 := (h.cell (p := ⟨B, 1, none⟩) hBl).trans d1; have d2 := (h.cell (p := ⟨B, 2, none⟩) hBl).trans d2; obtain ⟨HO, HN, H1⟩ := HPRE.out w1 sa sc h))
    | (go_at_call 48; with_reducible refine (cC _).mono ?_; rintro e w2 ⟨rfl, hw⟩; subst hw)
    | (at_builtin; go_must (refine wpList_append_grows _ rfl _ _ 22 rfl 51 i0 _ 4 56 Tryz.underlying22 hi hi0 hi1 hi2 rfl (by decide) ao zs.length zs.length (cellsL zs) rfl HN2.out HL.out HO.out ⟨w1.heap.size, 0, none⟩ 1 1 (cells1 (⟨b.next, f, day, text⟩, .slice sa f.length sc)) rfl rfl HN.out H1.out ?g1 ?g2 ?g3 ?_)))
  case g1 => omega
  case g2 => unfold maxLen; omega
  case g3 => omega
  intro v' w2 hown hgrow
  obtain ⟨pv, cv, rfl⟩ : ∃ pv cv, v' = .slice (some ⟨pv, 0, none⟩) (zs.length + 1) cv := by
    rcases hown.2 with ⟨_, h0⟩ | ⟨g, c, cur, e, _⟩
    · omega
    · exact ⟨g, c, e⟩
  have y2 : Below w.heap.size w w2 := (h.alloc h.size _).grown hgrow (by rw [alloc_size]; exact Nat.le_succ_of_le h.size) (fun k e => by cases e)
  have y12 : Below w1.heap.size w1 w2 := ((Below.refl _ w1).alloc (Nat.le_refl _) _).grown hgrow (by rw [alloc_size]; exact Nat.le_succ _) (fun k e => by cases e)
  have hB2 : w2.heap[B]? = some (.cells #[.int .i64 b.valid, .int .i64 b.next, .slice ao zs.length cap] 28 (0, 0)) := (y2.block B hBl).trans HB.out
  have HB2 := Lib.hid hB2
  have f1 : w2.frozen? ⟨B, 1, none⟩ = false := Lib.frozen_of_heap hB2 1
  have f2 : w2.frozen? ⟨B, 2, none⟩ = false := Lib.frozen_of_heap hB2 2
  have d1 := (three_cells hB2).2.1
  have d2 := (three_cells hB2).2.2
  have hown2 : w2.ownsRow 0 51 4 (.slice (some ⟨pv, 0, none⟩) (zs.length + 1) cv) (zs ++ [((⟨b.next, f, day, text⟩ : Let), Value.slice sa f.length sc)]).length (cellsL (zs ++ [((⟨b.next, f, day, text⟩ : Let), Value.slice sa f.length sc)])) := by
    rw [cellsL_app, List.length_append]
    refine ⟨by rw [List.length_append, cellsL_len, cellsL_len]; simp; omega, ?_⟩
    rcases hown.2 with ⟨e1, h0⟩ | ⟨g, c, cur, e1, e2, e3⟩
    · cases e1
    · exact Or.inr ⟨g, c, cur, e1, Nat.zero_le _, e3⟩
  have hX : XRow N w2 (.slice (some ⟨pv, 0, none⟩) (zs.length + 1) cv) (zs ++ [((⟨b.next, f, day, text⟩ : Let), Value.slice sa f.length sc)]) := by
    refine ⟨zrow_owns hown2 ?_, safe_owns hown2, ?_⟩
    · intro z hz
      rcases List.mem_append.1 hz with h' | h'
      · exact (HF.out z h').below y2
      · obtain rfl := List.mem_singleton.1 h'
        exact HT.out.1.below y12
    · intro z hz
      rcases List.mem_append.1 hz with h' | h'
      · exact (hsz z h').below y2
      · obtain rfl := List.mem_singleton.1 h'
        exact (safe_tag HT.out.2).below y12
  have HX := Lib.hid hX
  have hsp2 := Lib.hid (hsp w2 ⟨_, hB2, hzs ▸ lrow_of (HZ.out.below y2)⟩)
  have hpv : w.heap.size ≤ pv := by
    rcases hown.2 with ⟨e1, h0⟩ | ⟨g, c, cur, e1, e2, e3⟩
    · cases e1
    · cases e1
      have := h.size
      have s1 := alloc_size w1 (.cells #[.int .i64 b.next, .slice sa f.length sc, .int .i64 day, .string ⟨text.toArray⟩] 51)
      omega
  clear hX hown2 hown hB2 HO HN H1 HC cS cC
  go_wp2_with fail
  go_ret2
  refine ⟨rfl, ⟨_, _, set3_1 (set3_2 HB2.out), ?_, HX.out.kept (Kept.setB (Kept.setB (Kept.refl _ w2) _) _) hsp2.out⟩, Kept.setB (Kept.setB (kept_below y2) _) _, freshL_new (set3_1 (set3_2 HB2.out)) (fun j hj => by cases hj; exact hpv)⟩
  rw [List.map_append, hzs]
  rfl
end Go.Proofs.YteclajckkjocnaaGreatDoor
namespace Go.Proofs.YteclajckkjocnaaGreatDoor
open Go.RowKit Go.Shelf Go.Sort
set_option linter.unusedSimpArgs false
/-- an error, or none -/
def errV : Option Nat → Value
  | none => .nilIface
  | some n => .iface 59 (.int .i64 (n : Int))
theorem cells1_set (z : Let × Value) (x : Let) (fv : Value) (h1 : x.uid = z.1.uid) (h2 : x.day = z.1.day) (h3 : x.text = z.1.text) : (cells1 z).set 1 fv = cells1 (x, fv) := by
  unfold cells1
  rw [h1, h2, h3]
  rfl
theorem cellsL_set (x : Let) (fv : Value) : ∀ (zs : List (Let × Value)) (k : Nat) (z : Let × Value), zs[k]? = some z → x.uid = z.1.uid → x.day = z.1.day → x.text = z.1.text → (cellsL zs).set (k * 4 + 1) fv = cellsL (zs.set k (x, fv))
  | [], k, z, h, _, _, _ => by simp at h
  | y :: r, 0, z, h, h1, h2, h3 => by
    cases h
    show (cells1 y ++ cellsL r).set (0 * 4 + 1) fv = cells1 (x, fv) ++ cellsL r
    rw [List.set_append_left _ _ (by show 0 * 4 + 1 < 4; omega), ← cells1_set y x fv h1 h2 h3]
  | y :: r, k + 1, z, h, h1, h2, h3 => by
    show (cells1 y ++ cellsL r).set ((k + 1) * 4 + 1) fv = cells1 y ++ cellsL (r.set k (x, fv))
    rw [List.set_append_right _ _ (by show 4 ≤ _; omega)]
    show cells1 y ++ (cellsL r).set ((k + 1) * 4 + 1 - 4) fv = _
    rw [show (k + 1) * 4 + 1 - 4 = k * 4 + 1 by omega, cellsL_set x fv r k z h h1 h2 h3]
theorem setFl_at {g : List (List UInt8)} : ∀ (zs : List (Let × Value)) (k : Nat) (z : Let × Value) (fv : Value), zs[k]? = some z → (zs.set k ({ z.1 with flags := g }, fv)).map (·.1) = setFl (zs.map (·.1)) k g
  | [], k, z, fv, h => by simp at h
  | y :: r, 0, z, fv, h => by cases h; rfl
  | y :: r, k + 1, z, fv, h => by
    show y.1 :: ((r.set k _).map (·.1)) = y.1 :: setFl (r.map (·.1)) k g
    rw [setFl_at r k z fv h]
theorem right_flags {b : BoxP} (hr : rightB b = true) {x : Let} (hx : x ∈ b.ls) : setF x.flags = .inr x.flags := by
  unfold rightB at hr
  simp only [Bool.and_eq_true] at hr
  obtain ⟨k, hk⟩ := List.getElem?_of_mem hx
  exact (letOk_iff.1 (rightL_at hr.1.1.1 hk)).1
theorem right_len {b : BoxP} (hr : rightB b = true) : b.ls.length ≤ 60 := by
  unfold rightB at hr
  simp only [Bool.and_eq_true, decide_eq_true_eq] at hr
  exact hr.2
set_option maxRecDepth 100000 in
set_option maxHeartbeats 4000000 in
/-- a box's Flag, where it refuses ahead of the kinds -/
theorem flag_early (N B : Nat) (b : BoxP) (uid what : Int) (l : List (List UInt8)) (fv : Value) (n : Nat) (w : World) (hb : BoxS N w B b) (hr : rightB b = true) (hf : SRow w fv l) (hl : Short l) (hG : FlagG w) (hu0 : -9223372036854775808 ≤ uid) (hu1 : uid ≤ 9223372036854775807)
    (hbad : findB b.ls uid = none ∧ n = 7 ∨ (findB b.ls uid).isSome = true ∧ setF l = .inl n) :
    Calls Tryz.prog 26 #[.pointer (some ⟨B, 0, none⟩), .int .i64 uid, .int .i64 what, fv] w fun e w' => e = .returned (.iface 59 (.int .i64 (n : Int))) ∧ Below w.heap.size w w' := by
  have cF := find_any_box B b uid w hb.at (rising_of hr) (by have := right_len hr; omega) hu0 hu1
  rcases hbad with ⟨h1, rfl⟩ | ⟨h1, h2⟩
  · rw [h1] at cF
    have cF2 : Calls Tryz.prog 12 #[.pointer (some ⟨B, 0, none⟩), .int .i64 uid] w fun e w' => ∃ i : Nat, e = .returned (.tuple #[.int .i64 (i : Int), .bool false]) ∧ Below w.heap.size w w' := cF.mono (by rintro e w' ⟨i, h, _, h2⟩; exact ⟨i, h, h2⟩)
    clear cF h1
    go_enter Tryz.func26, Tryz.ntmps26
    go_wp2_with (go_at_call 12; go_loud ((with_reducible refine cF2.mono ?_); rintro e w1 ⟨i, rfl, h⟩))
    go_ret
    exact ⟨rfl, h⟩
  · rw [h1] at cF
    have cF2 : Calls Tryz.prog 12 #[.pointer (some ⟨B, 0, none⟩), .int .i64 uid] w fun e w' => ∃ i : Nat, e = .returned (.tuple #[.int .i64 (i : Int), .bool true]) ∧ Below w.heap.size w w' := cF.mono (by rintro e w' ⟨i, h, _, h2⟩; exact ⟨i, h, h2⟩)
    have cS := fun W (h : Below w.heap.size w W) => set_isnt h2 fv W (hf.below h) hl (hG.below h)
    clear cF h1 h2
    go_enter Tryz.func26, Tryz.ntmps26
    go_wp2_with (first
      | (go_at_call 12; go_loud ((with_reducible refine cF2.mono ?_); rintro e w1 ⟨i, rfl, h⟩))
      | (go_at_call 16; go_loud ((with_reducible refine (cS _ h).mono ?_); rintro e w2 ⟨rfl, h2⟩; have y := h.trans (h2.mono h.size))))
    go_ret
    exact ⟨rfl, y⟩
set_option maxRecDepth 100000 in
set_option maxHeartbeats 8000000 in
/-- a box's Flag, where the letter is there and the flags may be -/
theorem flag_lateF (N B : Nat) (b : BoxP) (uid what : Int) (l f g : List (List UInt8)) (k : Nat) (x : Let) (fv : Value) (w : World) (hb : BoxS N w B b) (hN : N ≤ B) (hr : rightB b = true) (hf : SRow w fv l) (hl : Short l) (hG : FlagG w) (hu0 : -9223372036854775808 ≤ uid) (hu1 : uid ≤ 9223372036854775807)
    (hk : findB b.ls uid = some k) (hx : b.ls[k]? = some x) (hs : setF l = .inr f) (hw : what = 0 ∧ g = f ∨ what = 1 ∧ g = canonF (x.flags ++ f) ∨ what = 2 ∧ g = notF x.flags f) :
    Calls Tryz.prog 26 #[.pointer (some ⟨B, 0, none⟩), .int .i64 uid, .int .i64 what, fv] w fun e w' => Hid (e = .returned (errV (if 12 < g.length then some 4 else none)) ∧ BoxS N w' B (if 12 < g.length then b else { b with ls := setFl b.ls k g }) ∧ Kept (fun k => k = B) w w' ∧ FreshL w w' B) := by
  have cF := find_any_box B b uid w hb.at (rising_of hr) (by have := right_len hr; omega) hu0 hu1
  rw [hk] at cF
  have cF2 : Calls Tryz.prog 12 #[.pointer (some ⟨B, 0, none⟩), .int .i64 uid] w fun e w' => e = .returned (.tuple #[.int .i64 (k : Int), .bool true]) ∧ Below w.heap.size w w' := cF.mono (by rintro e w' ⟨i, h, h1, h2⟩; rw [h1.out k rfl] at h; exact ⟨h, h2⟩)
  have hxs := right_flags hr (List.mem_of_getElem? hx)
  have hxl := (set_ok hxs).2.2
  have hfl := (set_ok hs).2.2
  have hrl := right_len hr
  have hsp := fun (w' : World) (hb : BoxAt w' B b) => spares_box hb hN
  have HBox := Lib.hid hb
  obtain ⟨lv, zs, hB, hzs, hz, hsv, hsz⟩ := hb
  have hkl : k < zs.length := by
    have := (List.getElem?_eq_some_iff.1 hx).1
    rwa [← hzs, List.length_map] at this
  obtain ⟨z, hzk⟩ : ∃ z, zs[k]? = some z := ⟨zs[k], List.getElem?_eq_getElem hkl⟩
  have hzx : z.1 = x := by
    rw [← hzs, List.getElem?_map, hzk] at hx
    exact Option.some.inj hx
  have hzl : zs.length ≤ 60 := by rw [← hzs, List.length_map] at hrl; exact hrl
  have hz' := hz
  obtain ⟨ao, cap, rfl, hcap, ⟨hcm, hnone⟩, hfls, hcell⟩ := hz'
  have hBl : B < w.heap.size := (Array.getElem?_eq_some_iff.1 hB).1
  have hzf := hfls z (List.mem_of_getElem? hzk)
  rw [hzx] at hzf
  obtain ⟨p, off, rfl, hpl, hc1⟩ := hcell (k * 4 + 1) z.2 (by rw [cellsL_get _ _ _ (by omega), hzk]; rfl)
  obtain ⟨xa, xc, hz2⟩ : ∃ xa xc, z.2 = .slice xa x.flags.length xc := by
    obtain ⟨ao, cap, h, _⟩ := hzf
    exact ⟨_, _, h⟩
  rw [hz2] at hc1 hzf
  have d2 : w.cell? ⟨B, 2, none⟩ = some (.slice (some ⟨p, off, none⟩) zs.length cap) := by rw [Lib.cell_of_heap hB]; rfl
  have HB := Lib.hid hB
  have HZ := Lib.hid hz
  have HK := Lib.hid hzk
  have HX := Lib.hid hzx
  have HS := Lib.hid hzs
  have HL := Lib.hid (cellsL_len zs)
  have hkz : (k : Int) < (zs.length : Int) := by omega
  have cOr := fun sv W (h : Below w.heap.size w W) (hv : SRow W sv f) => or_any (.slice xa x.flags.length xc) sv x.flags f W (hzf.below h) hv (by omega) (by omega) (hG.below h)
  have cNot := fun sv W (h : Below w.heap.size w W) (hv : SRow W sv f) => not_any (.slice xa x.flags.length xc) sv x.flags f W (hzf.below h) hv (by omega) (by omega)
  have hgl : g.length ≤ 24 := by
    rcases hw with ⟨_, rfl⟩ | ⟨_, rfl⟩ | ⟨_, rfl⟩
    · omega
    · have := canon_len (x.flags ++ f)
      rw [List.length_append] at this
      omega
    · have := List.length_filter_le (fun s => !decide (s ∈ f)) x.flags
      show (notF x.flags f).length ≤ 24
      unfold notF
      omega
  have cC := fun W (h : ZRow W (.slice (some ⟨p, off, none⟩) zs.length cap) zs) => cloneL_any _ zs W h (by omega)
  have hpay : ∀ w2 gv (y : Below w.heap.size w w2) (hT : TRow w2 gv g) v' w3 (ho : w3.ownsRow w2.heap.size 51 4 v' zs.length (cellsL zs)) (y3 : Below w2.heap.size w2 w3), ∃ p2 c2, v' = .slice (some ⟨p2, 0, none⟩) zs.length c2 ∧ p2 ≠ B ∧ w3.cell? ⟨p2, k * 4 + 1, none⟩ = some z.2 ∧ w3.frozen? ⟨p2, k * 4 + 1, none⟩ = false ∧
      (w3.setCell ⟨B, 2, none⟩ (.slice (some ⟨p2, 0, none⟩) zs.length c2)).cell? ⟨p2, k * 4 + 1, none⟩ = some z.2 ∧ (w3.setCell ⟨B, 2, none⟩ (.slice (some ⟨p2, 0, none⟩) zs.length c2)).frozen? ⟨p2, k * 4 + 1, none⟩ = false ∧ w3.frozen? ⟨B, 2, none⟩ = false ∧ w3.cell? ⟨B, 2, none⟩ = some (.slice (some ⟨p, off, none⟩) zs.length cap) ∧
      Hid (BoxS N ((w3.setCell ⟨B, 2, none⟩ (.slice (some ⟨p2, 0, none⟩) zs.length c2)).setCell ⟨p2, k * 4 + 1, none⟩ gv) B { b with ls := setFl b.ls k g } ∧ Kept (fun k => k = B) w ((w3.setCell ⟨B, 2, none⟩ (.slice (some ⟨p2, 0, none⟩) zs.length c2)).setCell ⟨p2, k * 4 + 1, none⟩ gv) ∧ FreshL w ((w3.setCell ⟨B, 2, none⟩ (.slice (some ⟨p2, 0, none⟩) zs.length c2)).setCell ⟨p2, k * 4 + 1, none⟩ gv) B) := by
    intro w2 gv y hT v' w3 ho y3
    have y03 : Below w.heap.size w w3 := y.trans (y3.mono y.size)
    have hB3 := (y03.block B hBl).trans HB.out
    obtain ⟨p2, c2, rfl⟩ : ∃ p2 c2, v' = .slice (some ⟨p2, 0, none⟩) zs.length c2 := by
      rcases ho.2 with ⟨_, h0⟩ | ⟨g, cap, cur, e, _⟩
      · omega
      · exact ⟨g, cap, e⟩
    have hp2 := ho.lt p2 rfl
    have hne : p2 ≠ B := by have := y.size; omega
    have hk4 : k * 4 + 1 < zs.length * 4 := by omega
    have ho4 : (w3.setCell ⟨B, 2, none⟩ (.slice (some ⟨p2, 0, none⟩) zs.length c2)).ownsRow w2.heap.size 51 4 (.slice (some ⟨p2, 0, none⟩) zs.length c2) zs.length (cellsL zs) :=
      ho.kept (row := some B) ⟨rfl, rfl, rfl, by rw [set_size]; exact Nat.le_refl _, fun k hk hs => Below.heap_setCell w3 _ _ k (fun e => hs (by rw [e]))⟩ (Or.inr (fun e => hne (Option.some.inj e)))
    have ho5 := (ho4.stored (k * 4 + 1) gv).1
    rw [cellsL_set { z.1 with flags := g } gv zs k z HK.out rfl rfl rfl] at ho5
    refine ⟨p2, c2, rfl, hne, ?_, ho.frozenAt _, ?_, ho4.frozenAt _, Lib.frozen_of_heap hB3 2, (three_cells hB3).2.2, ?_⟩
    · rw [ho.cellAt _ hk4, cellsL_get _ _ _ (by omega), HK.out]; rfl
    · rw [ho4.cellAt _ hk4, cellsL_get _ _ _ (by omega), HK.out]; rfl
    · have hKw : Kept (fun k => k = B) w ((w3.setCell ⟨B, 2, none⟩ (.slice (some ⟨p2, 0, none⟩) zs.length c2)).setCell ⟨p2, k * 4 + 1, none⟩ gv) := (Kept.setB (kept_below y03) _).setNew (by show w.heap.size ≤ p2; have := y.size; omega) _
      have hS : Spares N w (fun k => k = B) := hsp w ⟨_, HB.out, HS.out ▸ lrow_of HZ.out⟩
      have hS2 : Spares N w2 (fun k => k = B) := hsp w2 ⟨_, (y.block B hBl).trans HB.out, HS.out ▸ lrow_of (HZ.out.below y)⟩
      have hKw2 : Kept (fun k => k = B) w2 ((w3.setCell ⟨B, 2, none⟩ (.slice (some ⟨p2, 0, none⟩) zs.length c2)).setCell ⟨p2, k * 4 + 1, none⟩ gv) := (Kept.setB (kept_below y3) _).setNew (by show w2.heap.size ≤ p2; omega) _
      have hlen : (zs.set k ({ z.1 with flags := g }, gv)).length = zs.length := List.length_set
      have hget : ∀ q ∈ zs.set k ({ z.1 with flags := g }, gv), q ∈ zs ∨ q = ({ z.1 with flags := g }, gv) := fun q hq => List.mem_or_eq_of_mem_set hq
      refine ⟨⟨.slice (some ⟨p2, 0, none⟩) zs.length c2, zs.set k ({ z.1 with flags := g }, gv), ?_, ?_, zrow_owns (B := w2.heap.size) ?_ ?_, safe_owns ho5, ?_⟩, hKw, freshL_new (a := .int .i64 b.valid) (c := .int .i64 b.next) (lv := .slice (some ⟨p2, 0, none⟩) zs.length c2) (T := 28) (fz := (0, 0)) (by rw [Below.heap_setCell _ _ _ _ (fun e => hne e.symm)]; exact set3_2 hB3) (fun j hj => by have e : p2 = j := Option.some.inj hj; have h1 := hp2.1; have h2 := y.size; omega)⟩
      · rw [Below.heap_setCell _ _ _ _ (fun e => hne e.symm)]
        exact set3_2 hB3
      · rw [← HS.out]; exact setFl_at zs k z gv HK.out
      · rw [hlen]; exact ho5
      · intro q hq
        rcases hget q hq with h' | rfl
        · exact (hfls q h').kept (hsz q h') hKw hS
        · exact hT.1.kept (safe_tag hT.2) hKw2 hS2
      · intro q hq
        rcases hget q hq with h' | rfl
        · exact (hsz q h').kept hKw hS
        · exact (safe_tag hT.2).kept hKw2 hS2
  have hstay : ∀ w2, Below w.heap.size w w2 → BoxS N w2 B b ∧ Kept (fun k => k = B) w w2 ∧ FreshL w w2 B := fun w2 h => ⟨HBox.out.below h, kept_below h, freshL_same (h.block B hBl)⟩
  have HPAY := Lib.hid hpay
  have HSTAY := Lib.hid hstay
  have hc1' : w.cell? ⟨p, off + k * 4 + 1, none⟩ = some (.slice xa x.flags.length xc) := by rw [Nat.add_assoc]; exact hc1
  have cS2 := fun W (h : Below w.heap.size w W) => set_is2 hs fv W (hf.below h) hl (hG.below h)
  have cC2 := Lib.hid cC
  clear cF cC hpay hstay hfls hcell hB hz hzk hzx hzs hsz hsv hk hx hs hr hc1 hz2 hzf hcap hnone hxs hsp
  rcases hw with ⟨rfl, hg⟩ | ⟨rfl, hg⟩ | ⟨rfl, hg⟩
  · have cM : ∀ W, Below w.heap.size w W → Calls Tryz.prog 16 #[fv] W fun e w' => ∃ sa sc, e = .returned (.tuple #[.slice sa g.length sc, .nilIface]) ∧ Hid (TRow w' (.slice sa g.length sc) g) ∧ Below W.heap.size W w' := by rw [hg]; exact cS2
    clear cS2 cOr cNot hg
    by_cases h12 : 12 < g.length
    · have h12z : (12 : Int) < (g.length : Int) := by omega
      rw [if_pos h12, if_pos h12]
      have d0 := d2
      clear d2
      go_enter Tryz.func26, Tryz.ntmps26
      go_wp2_with (first
      | (go_at_call 12; go_loud ((with_reducible refine cF2.mono ?_); rintro e w1 ⟨rfl, h⟩))
      | (go_at_call 16; go_loud ((with_reducible refine (cM _ h).mono ?_); rintro e w2 ⟨ga, gc, rfl, hT, h2⟩; have y := h.trans (h2.mono h.size); have d2 := (y.cell (p := ⟨B, 2, none⟩) hBl).trans d0)))
      go_ret
      exact ⟨rfl, HSTAY.out _ y⟩
    · have h12z : ¬ ((12 : Int) < (g.length : Int)) := by omega
      rw [if_neg h12, if_neg h12]
      have d0 := d2
      clear d2
      go_enter Tryz.func26, Tryz.ntmps26
      go_wp2_with (first
      | (go_at_call 12; go_loud ((with_reducible refine cF2.mono ?_); rintro e w1 ⟨rfl, h⟩))
      | (go_at_call 16; go_loud ((with_reducible refine (cM _ h).mono ?_); rintro e w2 ⟨ga, gc, rfl, hT, h2⟩; have y := h.trans (h2.mono h.size); have d2 := (y.cell (p := ⟨B, 2, none⟩) hBl).trans d0))
      | (go_at_call 53; go_loud ((with_reducible refine (cC2.out _ (HZ.out.below y)).mono ?_); rintro e w4 ⟨v', rfl, ho, h4⟩; obtain ⟨p2, c2, rfl, hne, e1, e2, e3, e4, e5, e6, HP⟩ := HPAY.out _ _ y hT.out v' w4 ho h4; clear ho)))
      go_ret
      exact ⟨rfl, HP.out⟩
  · have cM : ∀ sv W, Below w.heap.size w W → SRow W sv f → Calls Tryz.prog 51 #[.slice xa x.flags.length xc, sv] W fun e w' => ∃ sa sc, e = .returned (.slice sa g.length sc) ∧ Hid (TRow w' (.slice sa g.length sc) g) ∧ Below W.heap.size W w' := fun sv W h hv => (cOr sv W h hv).mono (by
      rw [hg]
      rintro e w' ⟨sv, rfl, h1, h2⟩
      have h1' := h1.1
      obtain ⟨sa, sc, rfl, _⟩ := h1'
      exact ⟨sa, sc, rfl, h1, h2⟩)
    clear cOr cNot hg
    by_cases h12 : 12 < g.length
    · have h12z : (12 : Int) < (g.length : Int) := by omega
      rw [if_pos h12, if_pos h12]
      have d0 := d2
      clear d2
      go_enter Tryz.func26, Tryz.ntmps26
      go_wp2_with (first
      | (go_at_call 12; go_loud ((with_reducible refine cF2.mono ?_); rintro e w1 ⟨rfl, h⟩))
      | (go_at_call 16; go_loud ((with_reducible refine (cS2 _ h).mono ?_); rintro e w2 ⟨sa, sc, rfl, hS, h2⟩; have y2 := h.trans (h2.mono h.size); have d2 := (y2.cell (p := ⟨B, 2, none⟩) hBl).trans d0; have d3 := (y2.cell (p := ⟨p, off + k * 4 + 1, none⟩) hpl).trans hc1'))
      | (go_at_call 51; go_loud ((with_reducible refine (cM _ _ y2 hS.out.row).mono ?_); rintro e w3 ⟨ga, gc, rfl, hT, h3⟩; have y := y2.trans (h3.mono y2.size); have d2 := (y.cell (p := ⟨B, 2, none⟩) hBl).trans d0)))
      go_ret
      exact ⟨rfl, HSTAY.out _ y⟩
    · have h12z : ¬ ((12 : Int) < (g.length : Int)) := by omega
      rw [if_neg h12, if_neg h12]
      have d0 := d2
      clear d2
      go_enter Tryz.func26, Tryz.ntmps26
      go_wp2_with (first
      | (go_at_call 12; go_loud ((with_reducible refine cF2.mono ?_); rintro e w1 ⟨rfl, h⟩))
      | (go_at_call 16; go_loud ((with_reducible refine (cS2 _ h).mono ?_); rintro e w2 ⟨sa, sc, rfl, hS, h2⟩; have y2 := h.trans (h2.mono h.size); have d2 := (y2.cell (p := ⟨B, 2, none⟩) hBl).trans d0; have d3 := (y2.cell (p := ⟨p, off + k * 4 + 1, none⟩) hpl).trans hc1'))
      | (go_at_call 51; go_loud ((with_reducible refine (cM _ _ y2 hS.out.row).mono ?_); rintro e w3 ⟨ga, gc, rfl, hT, h3⟩; have y := y2.trans (h3.mono y2.size); have d2 := (y.cell (p := ⟨B, 2, none⟩) hBl).trans d0))
      | (go_at_call 53; go_loud ((with_reducible refine (cC2.out _ (HZ.out.below y)).mono ?_); rintro e w4 ⟨v', rfl, ho, h4⟩; obtain ⟨p2, c2, rfl, hne, e1, e2, e3, e4, e5, e6, HP⟩ := HPAY.out _ _ y hT.out v' w4 ho h4; clear ho)))
      go_ret
      exact ⟨rfl, HP.out⟩
  · have cM : ∀ sv W, Below w.heap.size w W → SRow W sv f → Calls Tryz.prog 52 #[.slice xa x.flags.length xc, sv] W fun e w' => ∃ sa sc, e = .returned (.slice sa g.length sc) ∧ Hid (TRow w' (.slice sa g.length sc) g) ∧ Below W.heap.size W w' := fun sv W h hv => (cNot sv W h hv).mono (by
      rw [hg]
      rintro e w' ⟨sv, rfl, h1, h2⟩
      have h1' := h1.1
      obtain ⟨sa, sc, rfl, _⟩ := h1'
      exact ⟨sa, sc, rfl, h1, h2⟩)
    clear cOr cNot hg
    by_cases h12 : 12 < g.length
    · have h12z : (12 : Int) < (g.length : Int) := by omega
      rw [if_pos h12, if_pos h12]
      have d0 := d2
      clear d2
      go_enter Tryz.func26, Tryz.ntmps26
      go_wp2_with (first
      | (go_at_call 12; go_loud ((with_reducible refine cF2.mono ?_); rintro e w1 ⟨rfl, h⟩))
      | (go_at_call 16; go_loud ((with_reducible refine (cS2 _ h).mono ?_); rintro e w2 ⟨sa, sc, rfl, hS, h2⟩; have y2 := h.trans (h2.mono h.size); have d2 := (y2.cell (p := ⟨B, 2, none⟩) hBl).trans d0; have d3 := (y2.cell (p := ⟨p, off + k * 4 + 1, none⟩) hpl).trans hc1'))
      | (go_at_call 52; go_loud ((with_reducible refine (cM _ _ y2 hS.out.row).mono ?_); rintro e w3 ⟨ga, gc, rfl, hT, h3⟩; have y := y2.trans (h3.mono y2.size); have d2 := (y.cell (p := ⟨B, 2, none⟩) hBl).trans d0)))
      go_ret
      exact ⟨rfl, HSTAY.out _ y⟩
    · have h12z : ¬ ((12 : Int) < (g.length : Int)) := by omega
      rw [if_neg h12, if_neg h12]
      have d0 := d2
      clear d2
      go_enter Tryz.func26, Tryz.ntmps26
      go_wp2_with (first
      | (go_at_call 12; go_loud ((with_reducible refine cF2.mono ?_); rintro e w1 ⟨rfl, h⟩))
      | (go_at_call 16; go_loud ((with_reducible refine (cS2 _ h).mono ?_); rintro e w2 ⟨sa, sc, rfl, hS, h2⟩; have y2 := h.trans (h2.mono h.size); have d2 := (y2.cell (p := ⟨B, 2, none⟩) hBl).trans d0; have d3 := (y2.cell (p := ⟨p, off + k * 4 + 1, none⟩) hpl).trans hc1'))
      | (go_at_call 52; go_loud ((with_reducible refine (cM _ _ y2 hS.out.row).mono ?_); rintro e w3 ⟨ga, gc, rfl, hT, h3⟩; have y := y2.trans (h3.mono y2.size); have d2 := (y.cell (p := ⟨B, 2, none⟩) hBl).trans d0))
      | (go_at_call 53; go_loud ((with_reducible refine (cC2.out _ (HZ.out.below y)).mono ?_); rintro e w4 ⟨v', rfl, ho, h4⟩; obtain ⟨p2, c2, rfl, hne, e1, e2, e3, e4, e5, e6, HP⟩ := HPAY.out _ _ y hT.out v' w4 ho h4; clear ho)))
      go_ret
      exact ⟨rfl, HP.out⟩
end Go.Proofs.YteclajckkjocnaaGreatDoor
namespace Go.Proofs.YteclajckkjocnaaGreatDoor
open Go.RowKit Go.Shelf Go.Sort
set_option linter.unusedSimpArgs false
/-- the number that Append tells -/
def numA : Nat ⊕ Int → Int
  | .inl _ => 0
  | .inr n => n
theorem app_anyF (N B : Nat) (b : BoxP) (l : List (List UInt8)) (fv : Value) (day : Int) (text : List UInt8) (w : World) (hb : BoxS N w B b) (hN : N ≤ B) (hr : rightB b = true) (hf : SRow w fv l) (hl : Short l) (ht : text.length ≤ 1000000) (hG : FlagG w) :
    Calls Tryz.prog 24 #[.pointer (some ⟨B, 0, none⟩), fv, .int .i64 day, .string ⟨text.toArray⟩] w fun e w' => e = .returned (.tuple #[.int .i64 (numA (appB b l day text).1), errV (errO (appB b l day text).1)]) ∧ BoxS N w' B (appB b l day text).2 ∧ Kept (fun k => k = B) w w' ∧ FreshL w w' B := by
  have hBl : B < w.heap.size := by
    obtain ⟨lv, zs, h, _⟩ := hb
    exact (Array.getElem?_eq_some_iff.1 h).1
  have hnx : 0 ≤ b.next := by
    unfold rightB numB at hr
    simp only [Bool.and_eq_true, decide_eq_true_eq] at hr
    omega
  rcases app_stays b l day text with ⟨n, e1, e2⟩ | ⟨⟨n, e1⟩, _⟩
  · refine (app_bad B b l fv day text n w hb.at hf hl ht hG e1 (by have := right_len hr; omega)).mono ?_
    rintro e w' ⟨rfl, h⟩
    rw [e1, e2]
    exact ⟨rfl, hb.below h, kept_below h, freshL_same (h.block B hBl)⟩
  · refine (app_goodF N B b l fv day text n w hb hN hf hl hG e1 hnx).mono ?_
    rintro e w' ⟨rfl, h1, h2, h3⟩
    rw [e1]
    exact ⟨rfl, h1, h2, h3⟩
set_option maxRecDepth 100000 in
set_option maxHeartbeats 4000000 in
/-- a box's Flag, where what is to be done is none of the three -/
theorem flag_arg (N B : Nat) (b : BoxP) (uid what : Int) (l f : List (List UInt8)) (fv : Value) (w : World) (hb : BoxS N w B b) (hr : rightB b = true) (hf : SRow w fv l) (hl : Short l) (hG : FlagG w) (hu0 : -9223372036854775808 ≤ uid) (hu1 : uid ≤ 9223372036854775807)
    (h1 : (findB b.ls uid).isSome = true) (hs : setF l = .inr f) (q0 : ¬ what = 0) (q1 : ¬ what = 1) (q2 : ¬ what = 2) :
    Calls Tryz.prog 26 #[.pointer (some ⟨B, 0, none⟩), .int .i64 uid, .int .i64 what, fv] w fun e w' => e = .returned (.iface 59 (.int .i64 ((1 : Nat) : Int))) ∧ Below w.heap.size w w' := by
  have cF := find_any_box B b uid w hb.at (rising_of hr) (by have := right_len hr; omega) hu0 hu1
  rw [h1] at cF
  have cF2 : Calls Tryz.prog 12 #[.pointer (some ⟨B, 0, none⟩), .int .i64 uid] w fun e w' => ∃ i : Nat, e = .returned (.tuple #[.int .i64 (i : Int), .bool true]) ∧ Below w.heap.size w w' := cF.mono (by rintro e w' ⟨i, h, _, h2⟩; exact ⟨i, h, h2⟩)
  have cS := fun W (h : Below w.heap.size w W) => set_is2 hs fv W (hf.below h) hl (hG.below h)
  have n0 : (what == 0) = false := by rw [beq_eq_false_iff_ne]; exact q0
  have n1 : (what == 1) = false := by rw [beq_eq_false_iff_ne]; exact q1
  have n2 : (what == 2) = false := by rw [beq_eq_false_iff_ne]; exact q2
  clear cF h1 hs
  go_enter Tryz.func26, Tryz.ntmps26
  go_wp2_with (first
    | (go_at_call 12; go_loud ((with_reducible refine cF2.mono ?_); rintro e w1 ⟨i, rfl, h⟩))
    | (go_at_call 16; go_loud ((with_reducible refine (cS _ h).mono ?_); rintro e w2 ⟨sa, sc, rfl, hT, h2⟩; have y := h.trans (h2.mono h.size))))
  go_ret
  exact ⟨rfl, y⟩
theorem flag_anyF (N B : Nat) (b : BoxP) (uid what : Int) (l : List (List UInt8)) (fv : Value) (w : World) (hb : BoxS N w B b) (hN : N ≤ B) (hr : rightB b = true) (hf : SRow w fv l) (hl : Short l) (hG : FlagG w) (hu0 : -9223372036854775808 ≤ uid) (hu1 : uid ≤ 9223372036854775807) :
    Calls Tryz.prog 26 #[.pointer (some ⟨B, 0, none⟩), .int .i64 uid, .int .i64 what, fv] w fun e w' => e = .returned (errV (flagB b uid what l).1) ∧ BoxS N w' B (flagB b uid what l).2 ∧ Kept (fun k => k = B) w w' ∧ FreshL w w' B := by
  have hBl : B < w.heap.size := by
    obtain ⟨lv, zs, h, _⟩ := hb
    exact (Array.getElem?_eq_some_iff.1 h).1
  cases hk : findB b.ls uid with
  | none =>
    have e : flagB b uid what l = (some 7, b) := by unfold flagB; rw [hk]
    rw [e]
    refine (flag_early N B b uid what l fv 7 w hb hr hf hl hG hu0 hu1 (Or.inl ⟨hk, rfl⟩)).mono ?_
    rintro e w' ⟨rfl, h⟩
    exact ⟨rfl, hb.below h, kept_below h, freshL_same (h.block B hBl)⟩
  | some k =>
    cases hs : setF l with
    | inl n =>
      have e : flagB b uid what l = (some n, b) := by unfold flagB; rw [hk, hs]
      rw [e]
      refine (flag_early N B b uid what l fv n w hb hr hf hl hG hu0 hu1 (Or.inr ⟨by rw [hk]; rfl, hs⟩)).mono ?_
      rintro e w' ⟨rfl, h⟩
      exact ⟨rfl, hb.below h, kept_below h, freshL_same (h.block B hBl)⟩
    | inr f =>
      obtain ⟨x, hx, _⟩ := findB_some hk
      by_cases hw : what = 0 ∨ what = 1 ∨ what = 2
      case neg =>
        have e : flagB b uid what l = (some 1, b) := by
          unfold flagB doFl
          simp only [hk, hs, hx, Option.map_some, Option.getD_some]
          rw [if_neg (fun h => hw (Or.inl h)), if_neg (fun h => hw (Or.inr (Or.inl h))), if_neg (fun h => hw (Or.inr (Or.inr h)))]
        rw [e]
        refine (flag_arg N B b uid what l f fv w hb hr hf hl hG hu0 hu1 (by rw [hk]; rfl) hs (fun h => hw (Or.inl h)) (fun h => hw (Or.inr (Or.inl h))) (fun h => hw (Or.inr (Or.inr h)))).mono ?_
        rintro e w' ⟨rfl, h⟩
        exact ⟨rfl, hb.below h, kept_below h, freshL_same (h.block B hBl)⟩
      obtain ⟨g, hg, hd⟩ : ∃ g, doFl what x.flags f = some g ∧ (what = 0 ∧ g = f ∨ what = 1 ∧ g = canonF (x.flags ++ f) ∨ what = 2 ∧ g = notF x.flags f) := by
        unfold doFl
        rcases hw with rfl | rfl | rfl
        · exact ⟨f, by simp, Or.inl ⟨rfl, rfl⟩⟩
        · exact ⟨_, by simp, Or.inr (Or.inl ⟨rfl, rfl⟩)⟩
        · exact ⟨_, by simp, Or.inr (Or.inr ⟨rfl, rfl⟩)⟩
      have e : flagB b uid what l = if 12 < g.length then (some 4, b) else (none, { b with ls := setFl b.ls k g }) := by
        unfold flagB
        simp only [hk, hs, hx, Option.map_some, Option.getD_some, hg]
      rw [e]
      refine (flag_lateF N B b uid what l f g k x fv w hb hN hr hf hl hG hu0 hu1 hk hx hs hd).mono ?_
      rintro e w' h
      have h' := h
      by_cases h12 : 12 < g.length
      · rw [if_pos h12] at h' ⊢
        simpa [h12] using h'.out
      · rw [if_neg h12] at h' ⊢
        simpa [h12] using h'.out
end Go.Proofs.YteclajckkjocnaaGreatDoor
