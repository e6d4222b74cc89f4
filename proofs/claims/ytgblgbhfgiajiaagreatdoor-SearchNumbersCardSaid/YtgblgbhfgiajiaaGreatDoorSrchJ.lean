/- The walk over search's key, at a word: SUBJECT, CC, KEYWORD, UNKEYWORD, UID, or a set. Conditions: flags.system, strconv's table of powers and its two errors, bytealg.MaxLen and the handle of error lie as the program's text lays them. -/
import Derived.Test.YtgblgbhfgiajiaaGreatDoorSrchF
import Derived.Deep.RegionHeld3
namespace Go.Proofs.YtgblgbhfgiajiaaGreatDoor
open Go.RowKit Go.Shelf Go.Sort
set_option linter.unusedSimpArgs false

set_option maxRecDepth 100000 in
set_option maxHeartbeats 16000000 in
theorem key_subject (d D : Nat) (hD : D ≤ 6) (w0 : World) (hG : SrG w0) (P n : Nat) (v : Value) (t : Wd) (l : List Wd) (w : World) (h : StK w0 P n v (t :: l) w) (hn : n + 1 ≤ 60) (hk : t.kind ≠ 3) (hs : greatL t.text = [83, 85, 66, 74, 69, 67, 84]) :
    Calls Tryz.prog 36 #[.pointer (some ⟨P, 0, none⟩), .int .i64 (D : Int)] w (KeyS w0 P (keyK (d + 1) (t :: l) n) w) := by
  have hsys : sysK (greatL t.text) = none := by rw [hs]; decide
  have hr : keyK (d + 1) (t :: l) n = headK (smallL [83, 85, 66, 74, 69, 67, 84]) l (n + 1) := by
    rw [keyK_cons, if_neg (by omega), if_neg hk]
    unfold plainK
    rw [hsys]
    simp only
    rw [hs, if_neg (by decide)]
    rfl
  obtain ⟨R, hR⟩ : ∃ R, keyK (d + 1) (t :: l) n = R := ⟨_, rfl⟩
  rw [hR]
  have HR := Lib.hid (hr.symm.trans hR)
  obtain ⟨a, c, rfl, -, -⟩ := h.words.val
  obtain ⟨g, off, va, vc, rfl, -, hc1, hc2, hg, x0, -, -, ht, -, -⟩ := h.words.cons
  have hP := h.pars.lt
  have hB := h.low
  have hgP : g ≠ P := by omega
  have hK1 := keyB_at h
  obtain ⟨c0, c1⟩ := two_cells h.pars
  have f1 := Lib.frozen_of_heap h.pars 1
  have h6z : decide ((6 : Int) < (D : Int)) = false := decide_eq_false (by omega)
  have h60z : decide ((60 : Int) < (n : Int) + 1) = false := decide_eq_false (by omega)
  have hkd : decide (t.kind = 3) = false := decide_eq_false hk
  have hkb : (t.kind == 3) = false := by rw [beq_eq_false_iff_ne]; exact hk
  obtain ⟨w1, hw1⟩ : ∃ w1, keyB w P n = w1 := ⟨_, rfl⟩
  rw [hw1] at hK1
  have y0 : ∀ j, j < w0.heap.size → w1.heap[j]? = w.heap[j]? := fun j hj => hK1.kept.block j (by omega) (by omega)
  have d0 := (World.cell?_of_block (w := w) (a := ⟨g, off, none⟩) (y0 g hg)).trans x0
  have K1 := Lib.hid hK1
  have HW := Lib.hid hw1
  have HG := Lib.hid hG
  have HT := Lib.hid ht
  have hgl : (greatL t.text).length ≤ 2000000 := by unfold greatL; rw [List.length_map]; exact ht
  have cW := word_st hK1.st
  unfold WordS at cW
  rw [show wordK (t :: l) = .ok (t.text, l) by rw [wordK, if_neg hk]] at cW
  have cGr := fun W => great_l t.text W ht
  have cSy := fun W hW => ofSystem_any (greatL t.text) W hgl hW
  have cNu := fun W => ofNumber_any (greatL t.text) W
  rw [hs] at cSy cNu cGr hsys
  have cSy : ∀ W, FlagG W → Calls Tryz.prog 55 #[.string ⟨([83, 85, 66, 74, 69, 67, 84]).toArray⟩] W fun e w' => e = .returned (.tuple #[.string ⟨#[]⟩, .bool false, .bool false]) ∧ Below W.heap.size W w' := fun W hW => by
    have := cSy W hW
    rw [hsys] at this
    exact this
  rw [show numsK [83, 85, 66, 74, 69, 67, 84] = 0 by decide] at cNu
  clear hsys hs
  clear h hK1 hw1 x0 y0 hr hR hk hG ht hgl
  unfold headK at HR
  have cSm := fun W => small_l [83, 85, 66, 74, 69, 67, 84] W (by decide)
  cases hq : wordK l with
  | error E =>
    have HX : Hid (R = .error E) := Lib.hid (by rw [← HR.out, hq])
    go_enter Tryz.func36, Tryz.ntmps36
    go_upto_region 2 with fail
    rw [show (w.setCell ⟨P, 1, none⟩ (.int .i64 ((n : Int) + 1))).alloc (.cells #[.int .i64 0, .string ⟨#[]⟩, .string ⟨#[]⟩, .int .i64 0, .slice none 0 0, .slice none 0 0] 38) = w1 from HW.out]
    clear c0 c1 f1
    obtain ⟨c0, c1⟩ := two_cells K1.out.st.pars
    go_wp2_with (first
      | (go_at_call 53; go_loud (((with_reducible refine cW.mono ?_); rintro e w2 h2; obtain ⟨v2, rfl, hs2, st2, k2⟩ := h2; have K2 := K1.out.next hP k2 st2)))
      | (go_at_call 54; go_loud (((with_reducible refine (cGr _).mono ?_); rintro e w3 ⟨rfl, y3⟩; have K3 := K2.under y3; have cSy1 := cSy w3 (K3.st.glob HG.out).flag)))
      | (go_at_call 55; go_loud (((with_reducible refine cSy1.mono ?_); rintro e w4 ⟨rfl, y4⟩; have K4 := K3.under y4)))
      | (go_at_call 57; go_loud (((with_reducible refine (cNu _).mono ?_); rintro e w5 ⟨rfl, hw5⟩; rw [hw5]; clear hw5)))
      | (go_at_call 22; go_loud (((with_reducible refine (cSm _).mono ?_); rintro e w6 ⟨rfl, y6⟩; have K6 := K4.under y6; have cQ := word_st K6.st; unfold WordS at cQ; rw [hq] at cQ)))
      | (go_at_call 53; go_loud (((with_reducible refine cQ.mono ?_); rintro e w9 h9; obtain ⟨rfl, k9⟩ := h9))))
    exact ⟨rfl, keyS_bad HX.out ⟨rfl, K6.kept.trans k9⟩⟩
  | ok x =>
    obtain ⟨x, l'⟩ := x
    have HX : Hid (R = .ok (.mk 3 (smallL [83, 85, 66, 74, 69, 67, 84]) x 0 [] [], l', n + 1)) := Lib.hid (by rw [← HR.out, hq])
    go_enter Tryz.func36, Tryz.ntmps36
    go_upto_region 2 with fail
    rw [show (w.setCell ⟨P, 1, none⟩ (.int .i64 ((n : Int) + 1))).alloc (.cells #[.int .i64 0, .string ⟨#[]⟩, .string ⟨#[]⟩, .int .i64 0, .slice none 0 0, .slice none 0 0] 38) = w1 from HW.out]
    clear c0 c1 f1
    obtain ⟨c0, c1⟩ := two_cells K1.out.st.pars
    go_wp2_with (first
      | (go_at_call 53; go_loud (((with_reducible refine cW.mono ?_); rintro e w2 h2; obtain ⟨v2, rfl, hs2, st2, k2⟩ := h2; have K2 := K1.out.next hP k2 st2)))
      | (go_at_call 54; go_loud (((with_reducible refine (cGr _).mono ?_); rintro e w3 ⟨rfl, y3⟩; have K3 := K2.under y3; have cSy1 := cSy w3 (K3.st.glob HG.out).flag)))
      | (go_at_call 55; go_loud (((with_reducible refine cSy1.mono ?_); rintro e w4 ⟨rfl, y4⟩; have K4 := K3.under y4)))
      | (go_at_call 57; go_loud (((with_reducible refine (cNu _).mono ?_); rintro e w5 ⟨rfl, hw5⟩; rw [hw5]; clear hw5)))
      | (go_at_call 22; go_loud (((with_reducible refine (cSm _).mono ?_); rintro e w6 ⟨rfl, y6⟩; have K6 := K4.under y6; have cQ := word_st K6.st; unfold WordS at cQ; rw [hq] at cQ)))
      | (go_at_call 53; go_loud (((with_reducible refine cQ.mono ?_); rintro e w7 h7; obtain ⟨v7, rfl, hs7, st7, k7⟩ := h7; have K7 := K6.next hP k7 st7; obtain ⟨r0, r1, r2, r3, r4, r5⟩ := ksix_cells K7.res; have fz := Lib.frozen_of_heap K7.res))))
    refine bodyPost_ret (results_cell_row (P := Tryz.prog) rfl _ _ w.heap.size _ _ _ _ rfl (kset_six K7.res _ _ _ _ _ _) Tryz.underlying38 rfl key_size) rfl ?_
    exact K7.done hP (keyC_leaf _ _ _ _ _ _ hs7 (by decide)) HX.out
set_option maxRecDepth 100000 in
set_option maxHeartbeats 16000000 in
theorem key_cc (d D : Nat) (hD : D ≤ 6) (w0 : World) (hG : SrG w0) (P n : Nat) (v : Value) (t : Wd) (l : List Wd) (w : World) (h : StK w0 P n v (t :: l) w) (hn : n + 1 ≤ 60) (hk : t.kind ≠ 3) (hs : greatL t.text = [67, 67]) :
    Calls Tryz.prog 36 #[.pointer (some ⟨P, 0, none⟩), .int .i64 (D : Int)] w (KeyS w0 P (keyK (d + 1) (t :: l) n) w) := by
  have hsys : sysK (greatL t.text) = none := by rw [hs]; decide
  have hr : keyK (d + 1) (t :: l) n = headK (smallL [67, 67]) l (n + 1) := by
    rw [keyK_cons, if_neg (by omega), if_neg hk]
    unfold plainK
    rw [hsys]
    simp only
    rw [hs, if_neg (by decide)]
    rfl
  obtain ⟨R, hR⟩ : ∃ R, keyK (d + 1) (t :: l) n = R := ⟨_, rfl⟩
  rw [hR]
  have HR := Lib.hid (hr.symm.trans hR)
  obtain ⟨a, c, rfl, -, -⟩ := h.words.val
  obtain ⟨g, off, va, vc, rfl, -, hc1, hc2, hg, x0, -, -, ht, -, -⟩ := h.words.cons
  have hP := h.pars.lt
  have hB := h.low
  have hgP : g ≠ P := by omega
  have hK1 := keyB_at h
  obtain ⟨c0, c1⟩ := two_cells h.pars
  have f1 := Lib.frozen_of_heap h.pars 1
  have h6z : decide ((6 : Int) < (D : Int)) = false := decide_eq_false (by omega)
  have h60z : decide ((60 : Int) < (n : Int) + 1) = false := decide_eq_false (by omega)
  have hkd : decide (t.kind = 3) = false := decide_eq_false hk
  have hkb : (t.kind == 3) = false := by rw [beq_eq_false_iff_ne]; exact hk
  obtain ⟨w1, hw1⟩ : ∃ w1, keyB w P n = w1 := ⟨_, rfl⟩
  rw [hw1] at hK1
  have y0 : ∀ j, j < w0.heap.size → w1.heap[j]? = w.heap[j]? := fun j hj => hK1.kept.block j (by omega) (by omega)
  have d0 := (World.cell?_of_block (w := w) (a := ⟨g, off, none⟩) (y0 g hg)).trans x0
  have K1 := Lib.hid hK1
  have HW := Lib.hid hw1
  have HG := Lib.hid hG
  have HT := Lib.hid ht
  have hgl : (greatL t.text).length ≤ 2000000 := by unfold greatL; rw [List.length_map]; exact ht
  have cW := word_st hK1.st
  unfold WordS at cW
  rw [show wordK (t :: l) = .ok (t.text, l) by rw [wordK, if_neg hk]] at cW
  have cGr := fun W => great_l t.text W ht
  have cSy := fun W hW => ofSystem_any (greatL t.text) W hgl hW
  have cNu := fun W => ofNumber_any (greatL t.text) W
  rw [hs] at cSy cNu cGr hsys
  have cSy : ∀ W, FlagG W → Calls Tryz.prog 55 #[.string ⟨([67, 67]).toArray⟩] W fun e w' => e = .returned (.tuple #[.string ⟨#[]⟩, .bool false, .bool false]) ∧ Below W.heap.size W w' := fun W hW => by
    have := cSy W hW
    rw [hsys] at this
    exact this
  rw [show numsK [67, 67] = 0 by decide] at cNu
  clear hsys hs
  clear h hK1 hw1 x0 y0 hr hR hk hG ht hgl
  unfold headK at HR
  have cSm := fun W => small_l [67, 67] W (by decide)
  cases hq : wordK l with
  | error E =>
    have HX : Hid (R = .error E) := Lib.hid (by rw [← HR.out, hq])
    go_enter Tryz.func36, Tryz.ntmps36
    go_upto_region 2 with fail
    rw [show (w.setCell ⟨P, 1, none⟩ (.int .i64 ((n : Int) + 1))).alloc (.cells #[.int .i64 0, .string ⟨#[]⟩, .string ⟨#[]⟩, .int .i64 0, .slice none 0 0, .slice none 0 0] 38) = w1 from HW.out]
    clear c0 c1 f1
    obtain ⟨c0, c1⟩ := two_cells K1.out.st.pars
    go_wp2_with (first
      | (go_at_call 53; go_loud (((with_reducible refine cW.mono ?_); rintro e w2 h2; obtain ⟨v2, rfl, hs2, st2, k2⟩ := h2; have K2 := K1.out.next hP k2 st2)))
      | (go_at_call 54; go_loud (((with_reducible refine (cGr _).mono ?_); rintro e w3 ⟨rfl, y3⟩; have K3 := K2.under y3; have cSy1 := cSy w3 (K3.st.glob HG.out).flag)))
      | (go_at_call 55; go_loud (((with_reducible refine cSy1.mono ?_); rintro e w4 ⟨rfl, y4⟩; have K4 := K3.under y4)))
      | (go_at_call 57; go_loud (((with_reducible refine (cNu _).mono ?_); rintro e w5 ⟨rfl, hw5⟩; rw [hw5]; clear hw5)))
      | (go_at_call 22; go_loud (((with_reducible refine (cSm _).mono ?_); rintro e w6 ⟨rfl, y6⟩; have K6 := K4.under y6; have cQ := word_st K6.st; unfold WordS at cQ; rw [hq] at cQ)))
      | (go_at_call 53; go_loud (((with_reducible refine cQ.mono ?_); rintro e w9 h9; obtain ⟨rfl, k9⟩ := h9))))
    exact ⟨rfl, keyS_bad HX.out ⟨rfl, K6.kept.trans k9⟩⟩
  | ok x =>
    obtain ⟨x, l'⟩ := x
    have HX : Hid (R = .ok (.mk 3 (smallL [67, 67]) x 0 [] [], l', n + 1)) := Lib.hid (by rw [← HR.out, hq])
    go_enter Tryz.func36, Tryz.ntmps36
    go_upto_region 2 with fail
    rw [show (w.setCell ⟨P, 1, none⟩ (.int .i64 ((n : Int) + 1))).alloc (.cells #[.int .i64 0, .string ⟨#[]⟩, .string ⟨#[]⟩, .int .i64 0, .slice none 0 0, .slice none 0 0] 38) = w1 from HW.out]
    clear c0 c1 f1
    obtain ⟨c0, c1⟩ := two_cells K1.out.st.pars
    go_wp2_with (first
      | (go_at_call 53; go_loud (((with_reducible refine cW.mono ?_); rintro e w2 h2; obtain ⟨v2, rfl, hs2, st2, k2⟩ := h2; have K2 := K1.out.next hP k2 st2)))
      | (go_at_call 54; go_loud (((with_reducible refine (cGr _).mono ?_); rintro e w3 ⟨rfl, y3⟩; have K3 := K2.under y3; have cSy1 := cSy w3 (K3.st.glob HG.out).flag)))
      | (go_at_call 55; go_loud (((with_reducible refine cSy1.mono ?_); rintro e w4 ⟨rfl, y4⟩; have K4 := K3.under y4)))
      | (go_at_call 57; go_loud (((with_reducible refine (cNu _).mono ?_); rintro e w5 ⟨rfl, hw5⟩; rw [hw5]; clear hw5)))
      | (go_at_call 22; go_loud (((with_reducible refine (cSm _).mono ?_); rintro e w6 ⟨rfl, y6⟩; have K6 := K4.under y6; have cQ := word_st K6.st; unfold WordS at cQ; rw [hq] at cQ)))
      | (go_at_call 53; go_loud (((with_reducible refine cQ.mono ?_); rintro e w7 h7; obtain ⟨v7, rfl, hs7, st7, k7⟩ := h7; have K7 := K6.next hP k7 st7; obtain ⟨r0, r1, r2, r3, r4, r5⟩ := ksix_cells K7.res; have fz := Lib.frozen_of_heap K7.res))))
    refine bodyPost_ret (results_cell_row (P := Tryz.prog) rfl _ _ w.heap.size _ _ _ _ rfl (kset_six K7.res _ _ _ _ _ _) Tryz.underlying38 rfl key_size) rfl ?_
    exact K7.done hP (keyC_leaf _ _ _ _ _ _ hs7 (by decide)) HX.out
set_option maxRecDepth 100000 in
set_option maxHeartbeats 16000000 in
theorem key_keyword (d D : Nat) (hD : D ≤ 6) (w0 : World) (hG : SrG w0) (P n : Nat) (v : Value) (t : Wd) (l : List Wd) (w : World) (h : StK w0 P n v (t :: l) w) (hn : n + 1 ≤ 60) (hk : t.kind ≠ 3) (hs : greatL t.text = [75, 69, 89, 87, 79, 82, 68]) :
    Calls Tryz.prog 36 #[.pointer (some ⟨P, 0, none⟩), .int .i64 (D : Int)] w (KeyS w0 P (keyK (d + 1) (t :: l) n) w) := by
  have hsys : sysK (greatL t.text) = none := by rw [hs]; decide
  have hr : keyK (d + 1) (t :: l) n = match flagK l with | .error e => .error e | .ok (x, l') => .ok (.mk 2 x [] 0 [] [], l', n + 1) := by
    rw [keyK_cons, if_neg (by omega), if_neg hk]
    unfold plainK
    rw [hsys]
    simp only
    rw [hs, if_neg (by decide)]
    show ((match flagK l with | .error e => .error e | .ok (x, l') => .ok (.mk 2 x [] 0 [] [], l', n + 1)) : KeyE) = _
    cases flagK l <;> rfl
  obtain ⟨R, hR⟩ : ∃ R, keyK (d + 1) (t :: l) n = R := ⟨_, rfl⟩
  rw [hR]
  have HR := Lib.hid (hr.symm.trans hR)
  obtain ⟨a, c, rfl, -, -⟩ := h.words.val
  obtain ⟨g, off, va, vc, rfl, -, hc1, hc2, hg, x0, -, -, ht, -, -⟩ := h.words.cons
  have hP := h.pars.lt
  have hB := h.low
  have hgP : g ≠ P := by omega
  have hK1 := keyB_at h
  obtain ⟨c0, c1⟩ := two_cells h.pars
  have f1 := Lib.frozen_of_heap h.pars 1
  have h6z : decide ((6 : Int) < (D : Int)) = false := decide_eq_false (by omega)
  have h60z : decide ((60 : Int) < (n : Int) + 1) = false := decide_eq_false (by omega)
  have hkd : decide (t.kind = 3) = false := decide_eq_false hk
  have hkb : (t.kind == 3) = false := by rw [beq_eq_false_iff_ne]; exact hk
  obtain ⟨w1, hw1⟩ : ∃ w1, keyB w P n = w1 := ⟨_, rfl⟩
  rw [hw1] at hK1
  have y0 : ∀ j, j < w0.heap.size → w1.heap[j]? = w.heap[j]? := fun j hj => hK1.kept.block j (by omega) (by omega)
  have d0 := (World.cell?_of_block (w := w) (a := ⟨g, off, none⟩) (y0 g hg)).trans x0
  have K1 := Lib.hid hK1
  have HW := Lib.hid hw1
  have HG := Lib.hid hG
  have HT := Lib.hid ht
  have hgl : (greatL t.text).length ≤ 2000000 := by unfold greatL; rw [List.length_map]; exact ht
  have cW := word_st hK1.st
  unfold WordS at cW
  rw [show wordK (t :: l) = .ok (t.text, l) by rw [wordK, if_neg hk]] at cW
  have cGr := fun W => great_l t.text W ht
  have cSy := fun W hW => ofSystem_any (greatL t.text) W hgl hW
  have cNu := fun W => ofNumber_any (greatL t.text) W
  rw [hs] at cSy cNu cGr hsys
  have cSy : ∀ W, FlagG W → Calls Tryz.prog 55 #[.string ⟨([75, 69, 89, 87, 79, 82, 68]).toArray⟩] W fun e w' => e = .returned (.tuple #[.string ⟨#[]⟩, .bool false, .bool false]) ∧ Below W.heap.size W w' := fun W hW => by
    have := cSy W hW
    rw [hsys] at this
    exact this
  rw [show numsK [75, 69, 89, 87, 79, 82, 68] = 0 by decide] at cNu
  clear hsys hs
  clear h hK1 hw1 x0 y0 hr hR hk hG ht hgl
  cases hq : flagK l with
  | error E =>
    have HX : Hid (R = .error E) := Lib.hid (by rw [← HR.out, hq])
    go_enter Tryz.func36, Tryz.ntmps36
    go_upto_region 2 with fail
    rw [show (w.setCell ⟨P, 1, none⟩ (.int .i64 ((n : Int) + 1))).alloc (.cells #[.int .i64 0, .string ⟨#[]⟩, .string ⟨#[]⟩, .int .i64 0, .slice none 0 0, .slice none 0 0] 38) = w1 from HW.out]
    clear c0 c1 f1
    obtain ⟨c0, c1⟩ := two_cells K1.out.st.pars
    go_wp2_with (first
      | (go_at_call 53; go_loud (((with_reducible refine cW.mono ?_); rintro e w2 h2; obtain ⟨v2, rfl, hs2, st2, k2⟩ := h2; have K2 := K1.out.next hP k2 st2)))
      | (go_at_call 54; go_loud (((with_reducible refine (cGr _).mono ?_); rintro e w3 ⟨rfl, y3⟩; have K3 := K2.under y3; have cSy1 := cSy w3 (K3.st.glob HG.out).flag)))
      | (go_at_call 55; go_loud (((with_reducible refine cSy1.mono ?_); rintro e w4 ⟨rfl, y4⟩; have K4 := K3.under y4)))
      | (go_at_call 57; go_loud (((with_reducible refine (cNu _).mono ?_); rintro e w5 ⟨rfl, hw5⟩; rw [hw5]; clear hw5; have cQ := flag_st K4.st HG.out; unfold FlagS at cQ; rw [hq] at cQ)))
      | (go_at_call 59; go_loud (((with_reducible refine cQ.mono ?_); rintro e w9 h9; obtain ⟨rfl, k9⟩ := h9))))
    exact ⟨rfl, keyS_bad HX.out ⟨rfl, K4.kept.trans k9⟩⟩
  | ok x =>
    obtain ⟨x, l'⟩ := x
    have HX : Hid (R = .ok (.mk 2 x [] 0 [] [], l', n + 1)) := Lib.hid (by rw [← HR.out, hq])
    go_enter Tryz.func36, Tryz.ntmps36
    go_upto_region 2 with fail
    rw [show (w.setCell ⟨P, 1, none⟩ (.int .i64 ((n : Int) + 1))).alloc (.cells #[.int .i64 0, .string ⟨#[]⟩, .string ⟨#[]⟩, .int .i64 0, .slice none 0 0, .slice none 0 0] 38) = w1 from HW.out]
    clear c0 c1 f1
    obtain ⟨c0, c1⟩ := two_cells K1.out.st.pars
    go_wp2_with (first
      | (go_at_call 53; go_loud (((with_reducible refine cW.mono ?_); rintro e w2 h2; obtain ⟨v2, rfl, hs2, st2, k2⟩ := h2; have K2 := K1.out.next hP k2 st2)))
      | (go_at_call 54; go_loud (((with_reducible refine (cGr _).mono ?_); rintro e w3 ⟨rfl, y3⟩; have K3 := K2.under y3; have cSy1 := cSy w3 (K3.st.glob HG.out).flag)))
      | (go_at_call 55; go_loud (((with_reducible refine cSy1.mono ?_); rintro e w4 ⟨rfl, y4⟩; have K4 := K3.under y4)))
      | (go_at_call 57; go_loud (((with_reducible refine (cNu _).mono ?_); rintro e w5 ⟨rfl, hw5⟩; rw [hw5]; clear hw5; have cQ := flag_st K4.st HG.out; unfold FlagS at cQ; rw [hq] at cQ)))
      | (go_at_call 59; go_loud (((with_reducible refine cQ.mono ?_); rintro e w7 h7; obtain ⟨v7, rfl, st7, k7⟩ := h7; have K7 := K4.next hP k7 st7; obtain ⟨r0, r1, r2, r3, r4, r5⟩ := ksix_cells K7.res; have fz := Lib.frozen_of_heap K7.res))))
    refine bodyPost_ret (results_cell_row (P := Tryz.prog) rfl _ _ w.heap.size _ _ _ _ rfl (kset_six K7.res _ _ _ _ _ _) Tryz.underlying38 rfl key_size) rfl ?_
    exact K7.done hP (keyC_leaf _ _ _ _ _ _ (by decide) (by decide)) HX.out
set_option maxRecDepth 100000 in
set_option maxHeartbeats 16000000 in
theorem key_unkeyword (d D : Nat) (hD : D ≤ 6) (w0 : World) (hG : SrG w0) (P n : Nat) (v : Value) (t : Wd) (l : List Wd) (w : World) (h : StK w0 P n v (t :: l) w) (hn : n + 1 ≤ 60) (hk : t.kind ≠ 3) (hs : greatL t.text = [85, 78, 75, 69, 89, 87, 79, 82, 68]) :
    Calls Tryz.prog 36 #[.pointer (some ⟨P, 0, none⟩), .int .i64 (D : Int)] w (KeyS w0 P (keyK (d + 1) (t :: l) n) w) := by
  have hsys : sysK (greatL t.text) = none := by rw [hs]; decide
  have hr : keyK (d + 1) (t :: l) n = match flagK l with | .error e => .error e | .ok (x, l') => .ok (notK (.mk 2 x [] 0 [] []), l', n + 1) := by
    rw [keyK_cons, if_neg (by omega), if_neg hk]
    unfold plainK
    rw [hsys]
    simp only
    rw [hs, if_neg (by decide)]
    show ((match flagK l with | .error e => .error e | .ok (x, l') => .ok (notK (.mk 2 x [] 0 [] []), l', n + 1)) : KeyE) = _
    cases flagK l <;> rfl
  obtain ⟨R, hR⟩ : ∃ R, keyK (d + 1) (t :: l) n = R := ⟨_, rfl⟩
  rw [hR]
  have HR := Lib.hid (hr.symm.trans hR)
  obtain ⟨a, c, rfl, -, -⟩ := h.words.val
  obtain ⟨g, off, va, vc, rfl, -, hc1, hc2, hg, x0, -, -, ht, -, -⟩ := h.words.cons
  have hP := h.pars.lt
  have hB := h.low
  have hgP : g ≠ P := by omega
  have hK1 := keyB_at h
  obtain ⟨c0, c1⟩ := two_cells h.pars
  have f1 := Lib.frozen_of_heap h.pars 1
  have h6z : decide ((6 : Int) < (D : Int)) = false := decide_eq_false (by omega)
  have h60z : decide ((60 : Int) < (n : Int) + 1) = false := decide_eq_false (by omega)
  have hkd : decide (t.kind = 3) = false := decide_eq_false hk
  have hkb : (t.kind == 3) = false := by rw [beq_eq_false_iff_ne]; exact hk
  obtain ⟨w1, hw1⟩ : ∃ w1, keyB w P n = w1 := ⟨_, rfl⟩
  rw [hw1] at hK1
  have y0 : ∀ j, j < w0.heap.size → w1.heap[j]? = w.heap[j]? := fun j hj => hK1.kept.block j (by omega) (by omega)
  have d0 := (World.cell?_of_block (w := w) (a := ⟨g, off, none⟩) (y0 g hg)).trans x0
  have K1 := Lib.hid hK1
  have HW := Lib.hid hw1
  have HG := Lib.hid hG
  have HT := Lib.hid ht
  have hgl : (greatL t.text).length ≤ 2000000 := by unfold greatL; rw [List.length_map]; exact ht
  have cW := word_st hK1.st
  unfold WordS at cW
  rw [show wordK (t :: l) = .ok (t.text, l) by rw [wordK, if_neg hk]] at cW
  have cGr := fun W => great_l t.text W ht
  have cSy := fun W hW => ofSystem_any (greatL t.text) W hgl hW
  have cNu := fun W => ofNumber_any (greatL t.text) W
  rw [hs] at cSy cNu cGr hsys
  have cSy : ∀ W, FlagG W → Calls Tryz.prog 55 #[.string ⟨([85, 78, 75, 69, 89, 87, 79, 82, 68]).toArray⟩] W fun e w' => e = .returned (.tuple #[.string ⟨#[]⟩, .bool false, .bool false]) ∧ Below W.heap.size W w' := fun W hW => by
    have := cSy W hW
    rw [hsys] at this
    exact this
  rw [show numsK [85, 78, 75, 69, 89, 87, 79, 82, 68] = 0 by decide] at cNu
  clear hsys hs
  clear h hK1 hw1 x0 y0 hr hR hk hG ht hgl
  cases hq : flagK l with
  | error E =>
    have HX : Hid (R = .error E) := Lib.hid (by rw [← HR.out, hq])
    go_enter Tryz.func36, Tryz.ntmps36
    go_upto_region 2 with fail
    rw [show (w.setCell ⟨P, 1, none⟩ (.int .i64 ((n : Int) + 1))).alloc (.cells #[.int .i64 0, .string ⟨#[]⟩, .string ⟨#[]⟩, .int .i64 0, .slice none 0 0, .slice none 0 0] 38) = w1 from HW.out]
    clear c0 c1 f1
    obtain ⟨c0, c1⟩ := two_cells K1.out.st.pars
    go_wp2_with (first
      | (go_at_call 53; go_loud (((with_reducible refine cW.mono ?_); rintro e w2 h2; obtain ⟨v2, rfl, hs2, st2, k2⟩ := h2; have K2 := K1.out.next hP k2 st2)))
      | (go_at_call 54; go_loud (((with_reducible refine (cGr _).mono ?_); rintro e w3 ⟨rfl, y3⟩; have K3 := K2.under y3; have cSy1 := cSy w3 (K3.st.glob HG.out).flag)))
      | (go_at_call 55; go_loud (((with_reducible refine cSy1.mono ?_); rintro e w4 ⟨rfl, y4⟩; have K4 := K3.under y4)))
      | (go_at_call 57; go_loud (((with_reducible refine (cNu _).mono ?_); rintro e w5 ⟨rfl, hw5⟩; rw [hw5]; clear hw5; have cQ := flag_st K4.st HG.out; unfold FlagS at cQ; rw [hq] at cQ)))
      | (go_at_call 59; go_loud (((with_reducible refine cQ.mono ?_); rintro e w9 h9; obtain ⟨rfl, k9⟩ := h9))))
    exact ⟨rfl, keyS_bad HX.out ⟨rfl, K4.kept.trans k9⟩⟩
  | ok x =>
    obtain ⟨x, l'⟩ := x
    have HX : Hid (R = .ok (notK (.mk 2 x [] 0 [] []), l', n + 1)) := Lib.hid (by rw [← HR.out, hq])
    go_enter Tryz.func36, Tryz.ntmps36
    go_upto_region 2 with fail
    rw [show (w.setCell ⟨P, 1, none⟩ (.int .i64 ((n : Int) + 1))).alloc (.cells #[.int .i64 0, .string ⟨#[]⟩, .string ⟨#[]⟩, .int .i64 0, .slice none 0 0, .slice none 0 0] 38) = w1 from HW.out]
    clear c0 c1 f1
    obtain ⟨c0, c1⟩ := two_cells K1.out.st.pars
    go_wp2_with (first
      | (go_at_call 53; go_loud (((with_reducible refine cW.mono ?_); rintro e w2 h2; obtain ⟨v2, rfl, hs2, st2, k2⟩ := h2; have K2 := K1.out.next hP k2 st2)))
      | (go_at_call 54; go_loud (((with_reducible refine (cGr _).mono ?_); rintro e w3 ⟨rfl, y3⟩; have K3 := K2.under y3; have cSy1 := cSy w3 (K3.st.glob HG.out).flag)))
      | (go_at_call 55; go_loud (((with_reducible refine cSy1.mono ?_); rintro e w4 ⟨rfl, y4⟩; have K4 := K3.under y4)))
      | (go_at_call 57; go_loud (((with_reducible refine (cNu _).mono ?_); rintro e w5 ⟨rfl, hw5⟩; rw [hw5]; clear hw5; have cQ := flag_st K4.st HG.out; unfold FlagS at cQ; rw [hq] at cQ)))
      | (go_at_call 59; go_loud (((with_reducible refine cQ.mono ?_); rintro e w7 h7; obtain ⟨v7, rfl, st7, k7⟩ := h7; have K7 := K4.next hP k7 st7; have cNo := notK_any (.int .i64 2) (.string ⟨x.toArray⟩) (.string ⟨#[]⟩) (.int .i64 0) (.slice none 0 0) (.slice none 0 0) w7)))
      | (go_at_call 56; go_loud (((with_reducible refine cNo.mono ?_); rintro e w8 ⟨rfl, y8, hz8⟩; have K8 := K7.under y8; obtain ⟨r0, r1, r2, r3, r4, r5⟩ := ksix_cells K8.res; have fz := Lib.frozen_of_heap K8.res))))
    have hs7 := K7.size
    refine bodyPost_ret (results_cell_row (P := Tryz.prog) rfl _ _ w.heap.size _ _ _ _ rfl (kset_six K8.res _ _ _ _ _ _) Tryz.underlying38 rfl key_size) rfl ?_
    exact K8.done hP (keyC_one hz8 (by omega) (keyC_leaf _ _ _ _ _ _ (by decide) (by decide))) HX.out
set_option maxRecDepth 100000 in
set_option maxHeartbeats 16000000 in
theorem key_uid (d D : Nat) (hD : D ≤ 6) (w0 : World) (hG : SrG w0) (P n : Nat) (v : Value) (t : Wd) (l : List Wd) (w : World) (h : StK w0 P n v (t :: l) w) (hn : n + 1 ≤ 60) (hk : t.kind ≠ 3) (hs : greatL t.text = [85, 73, 68]) :
    Calls Tryz.prog 36 #[.pointer (some ⟨P, 0, none⟩), .int .i64 (D : Int)] w (KeyS w0 P (keyK (d + 1) (t :: l) n) w) := by
  have hsys : sysK (greatL t.text) = none := by rw [hs]; decide
  have hr : keyK (d + 1) (t :: l) n = match wordK l with | .error e => .error e | .ok (x, l') => (match parseS x with | .error e => .error e | .ok r => .ok (.mk 11 [] [] 0 r [], l', n + 1)) := by
    rw [keyK_cons, if_neg (by omega), if_neg hk]
    unfold plainK
    rw [hsys]
    simp only
    rw [hs, if_neg (by decide)]
    show ((match wordK l with | .error e => .error e | .ok (x, l') => (match parseS x with | .error e => .error e | .ok r => .ok (.mk 11 [] [] 0 r [], l', n + 1))) : KeyE) = _
    cases wordK l <;> rfl
  obtain ⟨R, hR⟩ : ∃ R, keyK (d + 1) (t :: l) n = R := ⟨_, rfl⟩
  rw [hR]
  have HR := Lib.hid (hr.symm.trans hR)
  obtain ⟨a, c, rfl, -, -⟩ := h.words.val
  obtain ⟨g, off, va, vc, rfl, -, hc1, hc2, hg, x0, -, -, ht, -, -⟩ := h.words.cons
  have hP := h.pars.lt
  have hB := h.low
  have hgP : g ≠ P := by omega
  have hK1 := keyB_at h
  obtain ⟨c0, c1⟩ := two_cells h.pars
  have f1 := Lib.frozen_of_heap h.pars 1
  have h6z : decide ((6 : Int) < (D : Int)) = false := decide_eq_false (by omega)
  have h60z : decide ((60 : Int) < (n : Int) + 1) = false := decide_eq_false (by omega)
  have hkd : decide (t.kind = 3) = false := decide_eq_false hk
  have hkb : (t.kind == 3) = false := by rw [beq_eq_false_iff_ne]; exact hk
  obtain ⟨w1, hw1⟩ : ∃ w1, keyB w P n = w1 := ⟨_, rfl⟩
  rw [hw1] at hK1
  have y0 : ∀ j, j < w0.heap.size → w1.heap[j]? = w.heap[j]? := fun j hj => hK1.kept.block j (by omega) (by omega)
  have d0 := (World.cell?_of_block (w := w) (a := ⟨g, off, none⟩) (y0 g hg)).trans x0
  have K1 := Lib.hid hK1
  have HW := Lib.hid hw1
  have HG := Lib.hid hG
  have HT := Lib.hid ht
  have hgl : (greatL t.text).length ≤ 2000000 := by unfold greatL; rw [List.length_map]; exact ht
  have cW := word_st hK1.st
  unfold WordS at cW
  rw [show wordK (t :: l) = .ok (t.text, l) by rw [wordK, if_neg hk]] at cW
  have cGr := fun W => great_l t.text W ht
  have cSy := fun W hW => ofSystem_any (greatL t.text) W hgl hW
  have cNu := fun W => ofNumber_any (greatL t.text) W
  rw [hs] at cSy cNu cGr hsys
  have cSy : ∀ W, FlagG W → Calls Tryz.prog 55 #[.string ⟨([85, 73, 68]).toArray⟩] W fun e w' => e = .returned (.tuple #[.string ⟨#[]⟩, .bool false, .bool false]) ∧ Below W.heap.size W w' := fun W hW => by
    have := cSy W hW
    rw [hsys] at this
    exact this
  rw [show numsK [85, 73, 68] = 0 by decide] at cNu
  clear hsys hs
  clear h hK1 hw1 x0 y0 hr hR hk hG ht hgl
  cases hq : wordK l with
  | error E =>
    have HX : Hid (R = .error E) := Lib.hid (by rw [← HR.out, hq])
    go_enter Tryz.func36, Tryz.ntmps36
    go_upto_region 2 with fail
    rw [show (w.setCell ⟨P, 1, none⟩ (.int .i64 ((n : Int) + 1))).alloc (.cells #[.int .i64 0, .string ⟨#[]⟩, .string ⟨#[]⟩, .int .i64 0, .slice none 0 0, .slice none 0 0] 38) = w1 from HW.out]
    clear c0 c1 f1
    obtain ⟨c0, c1⟩ := two_cells K1.out.st.pars
    go_wp2_with (first
      | (go_at_call 53; go_loud (((with_reducible refine cW.mono ?_); rintro e w2 h2; obtain ⟨v2, rfl, hs2, st2, k2⟩ := h2; have K2 := K1.out.next hP k2 st2)))
      | (go_at_call 54; go_loud (((with_reducible refine (cGr _).mono ?_); rintro e w3 ⟨rfl, y3⟩; have K3 := K2.under y3; have cSy1 := cSy w3 (K3.st.glob HG.out).flag)))
      | (go_at_call 55; go_loud (((with_reducible refine cSy1.mono ?_); rintro e w4 ⟨rfl, y4⟩; have K4 := K3.under y4)))
      | (go_at_call 57; go_loud (((with_reducible refine (cNu _).mono ?_); rintro e w5 ⟨rfl, hw5⟩; rw [hw5]; clear hw5; have cQ := word_st K4.st; unfold WordS at cQ; rw [hq] at cQ)))
      | (go_at_call 53; go_loud (((with_reducible refine cQ.mono ?_); rintro e w9 h9; obtain ⟨rfl, k9⟩ := h9))))
    exact ⟨rfl, keyS_bad HX.out ⟨rfl, K4.kept.trans k9⟩⟩
  | ok x =>
    obtain ⟨x, l'⟩ := x
    cases hq2 : parseS x with
    | error E =>
      have HX : Hid (R = .error E) := Lib.hid (by rw [← HR.out, hq]; simp only; rw [hq2])
      go_enter Tryz.func36, Tryz.ntmps36
      go_upto_region 2 with fail
      rw [show (w.setCell ⟨P, 1, none⟩ (.int .i64 ((n : Int) + 1))).alloc (.cells #[.int .i64 0, .string ⟨#[]⟩, .string ⟨#[]⟩, .int .i64 0, .slice none 0 0, .slice none 0 0] 38) = w1 from HW.out]
      clear c0 c1 f1
      obtain ⟨c0, c1⟩ := two_cells K1.out.st.pars
      go_wp2_with (first
        | (go_at_call 53; go_loud (((with_reducible refine cW.mono ?_); rintro e w2 h2; obtain ⟨v2, rfl, hs2, st2, k2⟩ := h2; have K2 := K1.out.next hP k2 st2)))
        | (go_at_call 54; go_loud (((with_reducible refine (cGr _).mono ?_); rintro e w3 ⟨rfl, y3⟩; have K3 := K2.under y3; have cSy1 := cSy w3 (K3.st.glob HG.out).flag)))
        | (go_at_call 55; go_loud (((with_reducible refine cSy1.mono ?_); rintro e w4 ⟨rfl, y4⟩; have K4 := K3.under y4)))
        | (go_at_call 57; go_loud (((with_reducible refine (cNu _).mono ?_); rintro e w5 ⟨rfl, hw5⟩; rw [hw5]; clear hw5; have cQ := word_st K4.st; unfold WordS at cQ; rw [hq] at cQ)))
        | (go_at_call 53; go_loud (((with_reducible refine cQ.mono ?_); rintro e w6 h6; obtain ⟨v6, rfl, hs6, st6, k6⟩ := h6; have K6 := K4.next hP k6 st6; have cQ2 := set_st x P w6 hs6 (K6.st.glob HG.out); unfold SetS at cQ2; rw [hq2] at cQ2)))
        | (go_at_call 60; go_loud (((with_reducible refine cQ2.mono ?_); rintro e w9 h9; obtain ⟨rfl, k9⟩ := h9))))
      exact ⟨rfl, keyS_bad HX.out ⟨rfl, K6.kept.trans k9⟩⟩
    | ok r =>
      have HX : Hid (R = .ok (.mk 11 [] [] 0 r [], l', n + 1)) := Lib.hid (by rw [← HR.out, hq]; simp only; rw [hq2])
      go_enter Tryz.func36, Tryz.ntmps36
      go_upto_region 2 with fail
      rw [show (w.setCell ⟨P, 1, none⟩ (.int .i64 ((n : Int) + 1))).alloc (.cells #[.int .i64 0, .string ⟨#[]⟩, .string ⟨#[]⟩, .int .i64 0, .slice none 0 0, .slice none 0 0] 38) = w1 from HW.out]
      clear c0 c1 f1
      obtain ⟨c0, c1⟩ := two_cells K1.out.st.pars
      go_wp2_with (first
        | (go_at_call 53; go_loud (((with_reducible refine cW.mono ?_); rintro e w2 h2; obtain ⟨v2, rfl, hs2, st2, k2⟩ := h2; have K2 := K1.out.next hP k2 st2)))
        | (go_at_call 54; go_loud (((with_reducible refine (cGr _).mono ?_); rintro e w3 ⟨rfl, y3⟩; have K3 := K2.under y3; have cSy1 := cSy w3 (K3.st.glob HG.out).flag)))
        | (go_at_call 55; go_loud (((with_reducible refine cSy1.mono ?_); rintro e w4 ⟨rfl, y4⟩; have K4 := K3.under y4)))
        | (go_at_call 57; go_loud (((with_reducible refine (cNu _).mono ?_); rintro e w5 ⟨rfl, hw5⟩; rw [hw5]; clear hw5; have cQ := word_st K4.st; unfold WordS at cQ; rw [hq] at cQ)))
        | (go_at_call 53; go_loud (((with_reducible refine cQ.mono ?_); rintro e w6 h6; obtain ⟨v6, rfl, hs6, st6, k6⟩ := h6; have K6 := K4.next hP k6 st6; have cQ2 := set_st x P w6 hs6 (K6.st.glob HG.out); unfold SetS at cQ2; rw [hq2] at cQ2)))
        | (go_at_call 60; go_loud (((with_reducible refine cQ2.mono ?_); rintro e w7 h7; obtain ⟨u7, rfl, hr7, ho7, y7⟩ := h7; have hs6 := K6.size; have K7 := K6.under y7; obtain ⟨ra, rc, rfl⟩ := rg_slice hr7; obtain ⟨r0, r1, r2, r3, r4, r5⟩ := ksix_cells K7.res; have fz := Lib.frozen_of_heap K7.res))))
      refine bodyPost_ret (results_cell_row (P := Tryz.prog) rfl _ _ w.heap.size _ _ _ _ rfl (kset_six K7.res _ _ _ _ _ _) Tryz.underlying38 rfl key_size) rfl ?_
      exact K7.done hP (keyC_set hr7 (fun g hg => by have := ho7 g hg; omega) (by decide)) HX.out
set_option maxRecDepth 100000 in
set_option maxHeartbeats 16000000 in
theorem key_rest (d D : Nat) (hD : D ≤ 6) (w0 : World) (hG : SrG w0) (P n : Nat) (v : Value) (t : Wd) (l : List Wd) (w : World) (h : StK w0 P n v (t :: l) w) (hn : n + 1 ≤ 60) (hk : t.kind ≠ 3) (hsys : sysK (greatL t.text) = none) (hnum : ¬ 0 < numsK (greatL t.text)) (hnz : numsK (greatL t.text) = 0) (hno : ∀ u ∈ ([[70, 82, 79, 77], [84, 79], [83, 85, 66, 74, 69, 67, 84], [67, 67], [65, 76, 76], [75, 69, 89, 87, 79, 82, 68], [85, 78, 75, 69, 89, 87, 79, 82, 68], [72, 69, 65, 68, 69, 82], [66, 79, 68, 89], [84, 69, 88, 84], [85, 73, 68], [78, 79, 84], [79, 82]] : List (List UInt8)), greatL t.text ≠ u) :
    Calls Tryz.prog 36 #[.pointer (some ⟨P, 0, none⟩), .int .i64 (D : Int)] w (KeyS w0 P (keyK (d + 1) (t :: l) n) w) := by
  have hr : keyK (d + 1) (t :: l) n = match parseS t.text with | .error e => .error e | .ok r => .ok (.mk 12 [] [] 0 r [], l, n + 1) := by
    rw [keyK_cons, if_neg (by omega), if_neg hk]
    unfold plainK
    rw [hsys]
    simp only
    rw [if_neg hnum]
    unfold moreK
    rw [if_neg (by
      rintro (q | q | q | q)
      · exact hno _ (by decide) q
      · exact hno _ (by decide) q
      · exact hno _ (by decide) q
      · exact hno _ (by decide) q), if_neg (hno [65, 76, 76] (by decide)), if_neg (hno [75, 69, 89, 87, 79, 82, 68] (by decide)), if_neg (hno [85, 78, 75, 69, 89, 87, 79, 82, 68] (by decide)), if_neg (hno [72, 69, 65, 68, 69, 82] (by decide)), if_neg (hno [66, 79, 68, 89] (by decide)), if_neg (hno [84, 69, 88, 84] (by decide)), if_neg (hno [85, 73, 68] (by decide)), if_neg (hno [78, 79, 84] (by decide)), if_neg (hno [79, 82] (by decide))]
    cases parseS t.text <;> rfl
  obtain ⟨R, hR⟩ : ∃ R, keyK (d + 1) (t :: l) n = R := ⟨_, rfl⟩
  rw [hR]
  have HR := Lib.hid (hr.symm.trans hR)
  obtain ⟨a, c, rfl, -, -⟩ := h.words.val
  obtain ⟨g, off, va, vc, rfl, -, hc1, hc2, hg, x0, -, -, ht, -, -⟩ := h.words.cons
  have hP := h.pars.lt
  have hB := h.low
  have hgP : g ≠ P := by omega
  have hK1 := keyB_at h
  obtain ⟨c0, c1⟩ := two_cells h.pars
  have f1 := Lib.frozen_of_heap h.pars 1
  have h6z : decide ((6 : Int) < (D : Int)) = false := decide_eq_false (by omega)
  have h60z : decide ((60 : Int) < (n : Int) + 1) = false := decide_eq_false (by omega)
  have hkd : decide (t.kind = 3) = false := decide_eq_false hk
  have hkb : (t.kind == 3) = false := by rw [beq_eq_false_iff_ne]; exact hk
  obtain ⟨w1, hw1⟩ : ∃ w1, keyB w P n = w1 := ⟨_, rfl⟩
  rw [hw1] at hK1
  have y0 : ∀ j, j < w0.heap.size → w1.heap[j]? = w.heap[j]? := fun j hj => hK1.kept.block j (by omega) (by omega)
  have d0 := (World.cell?_of_block (w := w) (a := ⟨g, off, none⟩) (y0 g hg)).trans x0
  have K1 := Lib.hid hK1
  have HW := Lib.hid hw1
  have HG := Lib.hid hG
  have HT := Lib.hid ht
  have hgl : (greatL t.text).length ≤ 2000000 := by unfold greatL; rw [List.length_map]; exact ht
  have cW := word_st hK1.st
  unfold WordS at cW
  rw [show wordK (t :: l) = .ok (t.text, l) by rw [wordK, if_neg hk]] at cW
  have cGr := fun W => great_l t.text W ht
  have cSy := fun W hW => ofSystem_any (greatL t.text) W hgl hW
  have cNu := fun W => ofNumber_any (greatL t.text) W
  have cSy : ∀ W, FlagG W → Calls Tryz.prog 55 #[.string ⟨(greatL t.text).toArray⟩] W fun e w' => e = .returned (.tuple #[.string ⟨#[]⟩, .bool false, .bool false]) ∧ Below W.heap.size W w' := fun W hW => by
    have := cSy W hW
    rw [hsys] at this
    exact this
  rw [hnz] at cNu
  have n0 : (greatL t.text == [70, 82, 79, 77]) = false := by rw [beq_eq_false_iff_ne]; exact hno _ (by decide)
  have n1 : (greatL t.text == [84, 79]) = false := by rw [beq_eq_false_iff_ne]; exact hno _ (by decide)
  have n2 : (greatL t.text == [83, 85, 66, 74, 69, 67, 84]) = false := by rw [beq_eq_false_iff_ne]; exact hno _ (by decide)
  have n3 : (greatL t.text == [67, 67]) = false := by rw [beq_eq_false_iff_ne]; exact hno _ (by decide)
  have n4 : (greatL t.text == [65, 76, 76]) = false := by rw [beq_eq_false_iff_ne]; exact hno _ (by decide)
  have n5 : (greatL t.text == [75, 69, 89, 87, 79, 82, 68]) = false := by rw [beq_eq_false_iff_ne]; exact hno _ (by decide)
  have n6 : (greatL t.text == [85, 78, 75, 69, 89, 87, 79, 82, 68]) = false := by rw [beq_eq_false_iff_ne]; exact hno _ (by decide)
  have n7 : (greatL t.text == [72, 69, 65, 68, 69, 82]) = false := by rw [beq_eq_false_iff_ne]; exact hno _ (by decide)
  have n8 : (greatL t.text == [66, 79, 68, 89]) = false := by rw [beq_eq_false_iff_ne]; exact hno _ (by decide)
  have n9 : (greatL t.text == [84, 69, 88, 84]) = false := by rw [beq_eq_false_iff_ne]; exact hno _ (by decide)
  have n10 : (greatL t.text == [85, 73, 68]) = false := by rw [beq_eq_false_iff_ne]; exact hno _ (by decide)
  have n11 : (greatL t.text == [78, 79, 84]) = false := by rw [beq_eq_false_iff_ne]; exact hno _ (by decide)
  have n12 : (greatL t.text == [79, 82]) = false := by rw [beq_eq_false_iff_ne]; exact hno _ (by decide)
  clear hsys hnum hnz hno
  generalize greatL t.text = G at cGr cSy cNu n0 n1 n2 n3 n4 n5 n6 n7 n8 n9 n10 n11 n12
  clear h hK1 hw1 x0 y0 hr hR hk hG ht hgl
  cases hq2 : parseS t.text with
  | error E =>
    have HX : Hid (R = .error E) := Lib.hid (by rw [← HR.out, hq2])
    go_enter Tryz.func36, Tryz.ntmps36
    go_upto_region 2 with fail
    rw [show (w.setCell ⟨P, 1, none⟩ (.int .i64 ((n : Int) + 1))).alloc (.cells #[.int .i64 0, .string ⟨#[]⟩, .string ⟨#[]⟩, .int .i64 0, .slice none 0 0, .slice none 0 0] 38) = w1 from HW.out]
    clear c0 c1 f1
    obtain ⟨c0, c1⟩ := two_cells K1.out.st.pars
    go_wp2_with (first
      | (go_at_call 53; go_loud (((with_reducible refine cW.mono ?_); rintro e w2 h2; obtain ⟨v2, rfl, hs2, st2, k2⟩ := h2; have K2 := K1.out.next hP k2 st2)))
      | (go_at_call 54; go_loud (((with_reducible refine (cGr _).mono ?_); rintro e w3 ⟨rfl, y3⟩; have K3 := K2.under y3; have cSy1 := cSy w3 (K3.st.glob HG.out).flag)))
      | (go_at_call 55; go_loud (((with_reducible refine cSy1.mono ?_); rintro e w4 ⟨rfl, y4⟩; have K4 := K3.under y4)))
      | (go_at_call 57; go_loud (((with_reducible refine (cNu _).mono ?_); rintro e w5 ⟨rfl, hw5⟩; rw [hw5]; clear hw5; have cQ2 := set_st t.text P w4 HT.out (K4.st.glob HG.out); unfold SetS at cQ2; rw [hq2] at cQ2)))
      | (go_at_call 60; go_loud (((with_reducible refine cQ2.mono ?_); rintro e w9 h9; obtain ⟨rfl, k9⟩ := h9))))
    exact ⟨rfl, keyS_bad HX.out ⟨rfl, K4.kept.trans k9⟩⟩
  | ok r =>
    have HX : Hid (R = .ok (.mk 12 [] [] 0 r [], l, n + 1)) := Lib.hid (by rw [← HR.out, hq2])
    go_enter Tryz.func36, Tryz.ntmps36
    go_upto_region 2 with fail
    rw [show (w.setCell ⟨P, 1, none⟩ (.int .i64 ((n : Int) + 1))).alloc (.cells #[.int .i64 0, .string ⟨#[]⟩, .string ⟨#[]⟩, .int .i64 0, .slice none 0 0, .slice none 0 0] 38) = w1 from HW.out]
    clear c0 c1 f1
    obtain ⟨c0, c1⟩ := two_cells K1.out.st.pars
    go_wp2_with (first
      | (go_at_call 53; go_loud (((with_reducible refine cW.mono ?_); rintro e w2 h2; obtain ⟨v2, rfl, hs2, st2, k2⟩ := h2; have K2 := K1.out.next hP k2 st2)))
      | (go_at_call 54; go_loud (((with_reducible refine (cGr _).mono ?_); rintro e w3 ⟨rfl, y3⟩; have K3 := K2.under y3; have cSy1 := cSy w3 (K3.st.glob HG.out).flag)))
      | (go_at_call 55; go_loud (((with_reducible refine cSy1.mono ?_); rintro e w4 ⟨rfl, y4⟩; have K4 := K3.under y4)))
      | (go_at_call 57; go_loud (((with_reducible refine (cNu _).mono ?_); rintro e w5 ⟨rfl, hw5⟩; rw [hw5]; clear hw5; have cQ2 := set_st t.text P w4 HT.out (K4.st.glob HG.out); unfold SetS at cQ2; rw [hq2] at cQ2)))
      | (go_at_call 60; go_loud (((with_reducible refine cQ2.mono ?_); rintro e w7 h7; obtain ⟨u7, rfl, hr7, ho7, y7⟩ := h7; have hs6 := K4.size; have K7 := K4.under y7; obtain ⟨ra, rc, rfl⟩ := rg_slice hr7; obtain ⟨r0, r1, r2, r3, r4, r5⟩ := ksix_cells K7.res; have fz := Lib.frozen_of_heap K7.res))))
    refine bodyPost_ret (results_cell_row (P := Tryz.prog) rfl _ _ w.heap.size _ _ _ _ rfl (kset_six K7.res _ _ _ _ _ _) Tryz.underlying38 rfl key_size) rfl ?_
    exact K7.done hP (keyC_set hr7 (fun g hg => by have := ho7 g hg; omega) (by decide)) HX.out
end Go.Proofs.YtgblgbhfgiajiaaGreatDoor
