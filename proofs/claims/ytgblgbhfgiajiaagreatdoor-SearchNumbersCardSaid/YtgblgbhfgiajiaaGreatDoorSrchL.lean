/- The walk over search's key, at a word: a flag, a number, ALL. Conditions: flags.system, strconv's table of powers and its two errors, bytealg.MaxLen and the handle of error lie as the program's text lays them. The walk over search's key, at a word: NOT. Conditions: flags.system, strconv's table of powers and its two errors, bytealg.MaxLen and the handle of error lie as the program's text lays them. The walk over search's key, at a word: OR. Conditions: flags.system, strconv's table of powers and its two errors, bytealg.MaxLen and the handle of error lie as the program's text lays them. -/
import Derived.Test.YtgblgbhfgiajiaaGreatDoorSrchF
import Derived.Deep.RegionHeld3
namespace Go.Proofs.YtgblgbhfgiajiaaGreatDoor
open Go.RowKit Go.Shelf Go.Sort
set_option linter.unusedSimpArgs false

set_option maxRecDepth 100000 in
set_option maxHeartbeats 16000000 in
theorem key_sys_false (d D : Nat) (hD : D ≤ 6) (w0 : World) (hG : SrG w0) (P n : Nat) (v : Value) (t : Wd) (l : List Wd) (w : World) (h : StK w0 P n v (t :: l) w) (hn : n + 1 ≤ 60) (hk : t.kind ≠ 3) (nm : List UInt8) (hsys : sysK (greatL t.text) = some (nm, false)) :
    Calls Tryz.prog 36 #[.pointer (some ⟨P, 0, none⟩), .int .i64 (D : Int)] w (KeyS w0 P (keyK (d + 1) (t :: l) n) w) := by
  have hr : keyK (d + 1) (t :: l) n = .ok (.mk 2 nm [] 0 [] [], l, n + 1) := by
    rw [keyK_cons, if_neg (by omega), if_neg hk]
    unfold plainK
    rw [hsys]
    rfl
  obtain ⟨R, hR⟩ : ∃ R, keyK (d + 1) (t :: l) n = R := ⟨_, rfl⟩
  rw [hR]
  have HR := Lib.hid (hr.symm.trans hR)
  obtain ⟨a, c, rfl, -, -⟩ := h.words.val
  obtain ⟨g, off, va, vc, rfl, -, hc1, hc2, hg, x0, -, -, ht, -, -⟩ := h.words.cons
  have hP := h.pars.lt
  have hB := h.low
  have hgP : g ≠ P := by omega
  have hK1 := keyB_at h
  obtain ⟨c0, c1⟩ := two_cells h.pars
  have f1 := Lib.frozen_of_heap h.pars 1
  have h6z : decide ((6 : Int) < (D : Int)) = false := decide_eq_false (by omega)
  have h60z : decide ((60 : Int) < (n : Int) + 1) = false := decide_eq_false (by omega)
  have hkd : decide (t.kind = 3) = false := decide_eq_false hk
  have hkb : (t.kind == 3) = false := by rw [beq_eq_false_iff_ne]; exact hk
  obtain ⟨w1, hw1⟩ : ∃ w1, keyB w P n = w1 := ⟨_, rfl⟩
  rw [hw1] at hK1
  have y0 : ∀ j, j < w0.heap.size → w1.heap[j]? = w.heap[j]? := fun j hj => hK1.kept.block j (by omega) (by omega)
  have d0 := (World.cell?_of_block (w := w) (a := ⟨g, off, none⟩) (y0 g hg)).trans x0
  have K1 := Lib.hid hK1
  have HW := Lib.hid hw1
  have HG := Lib.hid hG
  have HT := Lib.hid ht
  have hgl : (greatL t.text).length ≤ 2000000 := by unfold greatL; rw [List.length_map]; exact ht
  have cW := word_st hK1.st
  unfold WordS at cW
  rw [show wordK (t :: l) = .ok (t.text, l) by rw [wordK, if_neg hk]] at cW
  have cGr := fun W => great_l t.text W ht
  have cSy := fun W hW => ofSystem_any (greatL t.text) W hgl hW
  have cNu := fun W => ofNumber_any (greatL t.text) W
  have cSy : ∀ W, FlagG W → Calls Tryz.prog 55 #[.string ⟨(greatL t.text).toArray⟩] W fun e w' => e = .returned (.tuple #[.string ⟨nm.toArray⟩, .bool false, .bool true]) ∧ Below W.heap.size W w' := fun W hW => by
    have := cSy W hW
    rw [hsys] at this
    exact this
  clear cNu hsys
  clear h hK1 hw1 x0 y0 hr hR hk hG ht hgl
  have HX : Hid (R = .ok (.mk 2 nm [] 0 [] [], l, n + 1)) := Lib.hid HR.out.symm
  go_enter Tryz.func36, Tryz.ntmps36
  go_upto_region 2 with fail
  rw [show (w.setCell ⟨P, 1, none⟩ (.int .i64 ((n : Int) + 1))).alloc (.cells #[.int .i64 0, .string ⟨#[]⟩, .string ⟨#[]⟩, .int .i64 0, .slice none 0 0, .slice none 0 0] 38) = w1 from HW.out]
  clear c0 c1 f1
  obtain ⟨c0, c1⟩ := two_cells K1.out.st.pars
  go_upto_region 15 with (first
    | (go_at_call 53; go_loud (((with_reducible refine cW.mono ?_); rintro e w2 h2; obtain ⟨v2, rfl, hs2, st2, k2⟩ := h2; have K2 := K1.out.next hP k2 st2)))
    | (go_at_call 54; go_loud (((with_reducible refine (cGr _).mono ?_); rintro e w3 ⟨rfl, y3⟩; have K3 := K2.under y3; have cSy1 := cSy w3 (K3.st.glob HG.out).flag)))
    | (go_at_call 55; go_loud (((with_reducible refine cSy1.mono ?_); rintro e w4 ⟨rfl, y4⟩; have K4 := K3.under y4))))
  have hb5 := (Below.refl w4.heap.size w4).alloc (Nat.le_refl _) (.cells #[.int .i64 2, .string ⟨nm.toArray⟩, .string ⟨#[]⟩, .int .i64 0, .slice none 0 0, .slice none 0 0] 38)
  have K5 := K4.under hb5
  obtain ⟨r0, r1, r2, r3, r4, r5⟩ := ksix_cells K5.res
  have fz := Lib.frozen_of_heap K5.res
  go_wp2_with fail
  refine bodyPost_ret (results_cell_row (P := Tryz.prog) rfl _ _ w.heap.size _ _ _ _ rfl (kset_six K5.res _ _ _ _ _ _) Tryz.underlying38 rfl key_size) rfl ?_
  exact K5.done hP (keyC_leaf _ _ _ _ _ _ (by decide) (by decide)) HX.out
set_option maxRecDepth 100000 in
set_option maxHeartbeats 16000000 in
theorem key_sys_true (d D : Nat) (hD : D ≤ 6) (w0 : World) (hG : SrG w0) (P n : Nat) (v : Value) (t : Wd) (l : List Wd) (w : World) (h : StK w0 P n v (t :: l) w) (hn : n + 1 ≤ 60) (hk : t.kind ≠ 3) (nm : List UInt8) (hsys : sysK (greatL t.text) = some (nm, true)) :
    Calls Tryz.prog 36 #[.pointer (some ⟨P, 0, none⟩), .int .i64 (D : Int)] w (KeyS w0 P (keyK (d + 1) (t :: l) n) w) := by
  have hr : keyK (d + 1) (t :: l) n = .ok (notK (.mk 2 nm [] 0 [] []), l, n + 1) := by
    rw [keyK_cons, if_neg (by omega), if_neg hk]
    unfold plainK
    rw [hsys]
    rfl
  obtain ⟨R, hR⟩ : ∃ R, keyK (d + 1) (t :: l) n = R := ⟨_, rfl⟩
  rw [hR]
  have HR := Lib.hid (hr.symm.trans hR)
  obtain ⟨a, c, rfl, -, -⟩ := h.words.val
  obtain ⟨g, off, va, vc, rfl, -, hc1, hc2, hg, x0, -, -, ht, -, -⟩ := h.words.cons
  have hP := h.pars.lt
  have hB := h.low
  have hgP : g ≠ P := by omega
  have hK1 := keyB_at h
  obtain ⟨c0, c1⟩ := two_cells h.pars
  have f1 := Lib.frozen_of_heap h.pars 1
  have h6z : decide ((6 : Int) < (D : Int)) = false := decide_eq_false (by omega)
  have h60z : decide ((60 : Int) < (n : Int) + 1) = false := decide_eq_false (by omega)
  have hkd : decide (t.kind = 3) = false := decide_eq_false hk
  have hkb : (t.kind == 3) = false := by rw [beq_eq_false_iff_ne]; exact hk
  obtain ⟨w1, hw1⟩ : ∃ w1, keyB w P n = w1 := ⟨_, rfl⟩
  rw [hw1] at hK1
  have y0 : ∀ j, j < w0.heap.size → w1.heap[j]? = w.heap[j]? := fun j hj => hK1.kept.block j (by omega) (by omega)
  have d0 := (World.cell?_of_block (w := w) (a := ⟨g, off, none⟩) (y0 g hg)).trans x0
  have K1 := Lib.hid hK1
  have HW := Lib.hid hw1
  have HG := Lib.hid hG
  have HT := Lib.hid ht
  have hgl : (greatL t.text).length ≤ 2000000 := by unfold greatL; rw [List.length_map]; exact ht
  have cW := word_st hK1.st
  unfold WordS at cW
  rw [show wordK (t :: l) = .ok (t.text, l) by rw [wordK, if_neg hk]] at cW
  have cGr := fun W => great_l t.text W ht
  have cSy := fun W hW => ofSystem_any (greatL t.text) W hgl hW
  have cNu := fun W => ofNumber_any (greatL t.text) W
  have cSy : ∀ W, FlagG W → Calls Tryz.prog 55 #[.string ⟨(greatL t.text).toArray⟩] W fun e w' => e = .returned (.tuple #[.string ⟨nm.toArray⟩, .bool true, .bool true]) ∧ Below W.heap.size W w' := fun W hW => by
    have := cSy W hW
    rw [hsys] at this
    exact this
  clear cNu hsys
  clear h hK1 hw1 x0 y0 hr hR hk hG ht hgl
  have HX : Hid (R = .ok (notK (.mk 2 nm [] 0 [] []), l, n + 1)) := Lib.hid HR.out.symm
  go_enter Tryz.func36, Tryz.ntmps36
  go_upto_region 2 with fail
  rw [show (w.setCell ⟨P, 1, none⟩ (.int .i64 ((n : Int) + 1))).alloc (.cells #[.int .i64 0, .string ⟨#[]⟩, .string ⟨#[]⟩, .int .i64 0, .slice none 0 0, .slice none 0 0] 38) = w1 from HW.out]
  clear c0 c1 f1
  obtain ⟨c0, c1⟩ := two_cells K1.out.st.pars
  go_upto_region 16 with (first
    | (go_at_call 53; go_loud (((with_reducible refine cW.mono ?_); rintro e w2 h2; obtain ⟨v2, rfl, hs2, st2, k2⟩ := h2; have K2 := K1.out.next hP k2 st2)))
    | (go_at_call 54; go_loud (((with_reducible refine (cGr _).mono ?_); rintro e w3 ⟨rfl, y3⟩; have K3 := K2.under y3; have cSy1 := cSy w3 (K3.st.glob HG.out).flag)))
    | (go_at_call 55; go_loud (((with_reducible refine cSy1.mono ?_); rintro e w4 ⟨rfl, y4⟩; have K4 := K3.under y4))))
  have hb5 := (Below.refl w4.heap.size w4).alloc (Nat.le_refl _) (.cells #[.int .i64 2, .string ⟨nm.toArray⟩, .string ⟨#[]⟩, .int .i64 0, .slice none 0 0, .slice none 0 0] 38)
  have hz5 := World.heap_alloc_new w4 (.cells #[.int .i64 2, .string ⟨nm.toArray⟩, .string ⟨#[]⟩, .int .i64 0, .slice none 0 0, .slice none 0 0] 38)
  have K5 := K4.under hb5
  generalize w4.alloc (.cells #[.int .i64 2, .string ⟨nm.toArray⟩, .string ⟨#[]⟩, .int .i64 0, .slice none 0 0, .slice none 0 0] 38) = w5 at hz5 K5 ⊢
  obtain ⟨z0, z1, z2, z3, z4, z5⟩ := ksix_cells hz5
  have cNo := notK_any (.int .i64 2) (.string ⟨nm.toArray⟩) (.string ⟨#[]⟩) (.int .i64 0) (.slice none 0 0) (.slice none 0 0) w5
  go_wp2_with (first
    | (go_at_call 56; go_loud (((with_reducible refine cNo.mono ?_); rintro e w6 ⟨rfl, y6, hz6⟩; have K6 := K5.under y6; obtain ⟨r0, r1, r2, r3, r4, r5⟩ := ksix_cells K6.res; have fz := Lib.frozen_of_heap K6.res))))
  have hs5 := K5.size
  refine bodyPost_ret (results_cell_row (P := Tryz.prog) rfl _ _ w.heap.size _ _ _ _ rfl (kset_six K6.res _ _ _ _ _ _) Tryz.underlying38 rfl key_size) rfl ?_
  exact K6.done hP (keyC_one hz6 (by omega) (keyC_leaf _ _ _ _ _ _ (by decide) (by decide))) HX.out
set_option maxRecDepth 100000 in
set_option maxHeartbeats 16000000 in
theorem key_num (d D : Nat) (hD : D ≤ 6) (w0 : World) (hG : SrG w0) (P n : Nat) (v : Value) (t : Wd) (l : List Wd) (w : World) (h : StK w0 P n v (t :: l) w) (hn : n + 1 ≤ 60) (hk : t.kind ≠ 3) (hsys : sysK (greatL t.text) = none) (hnum : 0 < numsK (greatL t.text)) (hnc : numsK (greatL t.text) ≠ 13) :
    Calls Tryz.prog 36 #[.pointer (some ⟨P, 0, none⟩), .int .i64 (D : Int)] w (KeyS w0 P (keyK (d + 1) (t :: l) n) w) := by
  have hr : keyK (d + 1) (t :: l) n = match numberK l with | .error e => .error e | .ok (v, l') => .ok (.mk (numsK (greatL t.text)) [] [] v [] [], l', n + 1) := by
    rw [keyK_cons, if_neg (by omega), if_neg hk]
    unfold plainK
    rw [hsys]
    simp only
    rw [if_pos hnum]
    cases numberK l <;> rfl
  obtain ⟨R, hR⟩ : ∃ R, keyK (d + 1) (t :: l) n = R := ⟨_, rfl⟩
  rw [hR]
  have HR := Lib.hid (hr.symm.trans hR)
  obtain ⟨a, c, rfl, -, -⟩ := h.words.val
  obtain ⟨g, off, va, vc, rfl, -, hc1, hc2, hg, x0, -, -, ht, -, -⟩ := h.words.cons
  have hP := h.pars.lt
  have hB := h.low
  have hgP : g ≠ P := by omega
  have hK1 := keyB_at h
  obtain ⟨c0, c1⟩ := two_cells h.pars
  have f1 := Lib.frozen_of_heap h.pars 1
  have h6z : decide ((6 : Int) < (D : Int)) = false := decide_eq_false (by omega)
  have h60z : decide ((60 : Int) < (n : Int) + 1) = false := decide_eq_false (by omega)
  have hkd : decide (t.kind = 3) = false := decide_eq_false hk
  have hkb : (t.kind == 3) = false := by rw [beq_eq_false_iff_ne]; exact hk
  obtain ⟨w1, hw1⟩ : ∃ w1, keyB w P n = w1 := ⟨_, rfl⟩
  rw [hw1] at hK1
  have y0 : ∀ j, j < w0.heap.size → w1.heap[j]? = w.heap[j]? := fun j hj => hK1.kept.block j (by omega) (by omega)
  have d0 := (World.cell?_of_block (w := w) (a := ⟨g, off, none⟩) (y0 g hg)).trans x0
  have K1 := Lib.hid hK1
  have HW := Lib.hid hw1
  have HG := Lib.hid hG
  have HT := Lib.hid ht
  have hgl : (greatL t.text).length ≤ 2000000 := by unfold greatL; rw [List.length_map]; exact ht
  have cW := word_st hK1.st
  unfold WordS at cW
  rw [show wordK (t :: l) = .ok (t.text, l) by rw [wordK, if_neg hk]] at cW
  have cGr := fun W => great_l t.text W ht
  have cSy := fun W hW => ofSystem_any (greatL t.text) W hgl hW
  have cNu := fun W => ofNumber_any (greatL t.text) W
  have cSy : ∀ W, FlagG W → Calls Tryz.prog 55 #[.string ⟨(greatL t.text).toArray⟩] W fun e w' => e = .returned (.tuple #[.string ⟨#[]⟩, .bool false, .bool false]) ∧ Below W.heap.size W w' := fun W hW => by
    have := cSy W hW
    rw [hsys] at this
    exact this
  clear hsys
  clear h hK1 hw1 x0 y0 hr hR hk hG ht hgl
  generalize numsK (greatL t.text) = N at hnum hnc cNu HR
  have hnd : decide (0 < N) = true := decide_eq_true hnum
  cases hq : numberK l with
  | error E =>
    have HX : Hid (R = .error E) := Lib.hid (by rw [← HR.out, hq])
    go_enter Tryz.func36, Tryz.ntmps36
    go_upto_region 2 with fail
    rw [show (w.setCell ⟨P, 1, none⟩ (.int .i64 ((n : Int) + 1))).alloc (.cells #[.int .i64 0, .string ⟨#[]⟩, .string ⟨#[]⟩, .int .i64 0, .slice none 0 0, .slice none 0 0] 38) = w1 from HW.out]
    clear c0 c1 f1
    obtain ⟨c0, c1⟩ := two_cells K1.out.st.pars
    go_wp2_with (first
      | (go_at_call 53; go_loud (((with_reducible refine cW.mono ?_); rintro e w2 h2; obtain ⟨v2, rfl, hs2, st2, k2⟩ := h2; have K2 := K1.out.next hP k2 st2)))
      | (go_at_call 54; go_loud (((with_reducible refine (cGr _).mono ?_); rintro e w3 ⟨rfl, y3⟩; have K3 := K2.under y3; have cSy1 := cSy w3 (K3.st.glob HG.out).flag)))
      | (go_at_call 55; go_loud (((with_reducible refine cSy1.mono ?_); rintro e w4 ⟨rfl, y4⟩; have K4 := K3.under y4)))
      | (go_at_call 57; go_loud (((with_reducible refine (cNu _).mono ?_); rintro e w5 ⟨rfl, hw5⟩; rw [hw5]; clear hw5; have cQ := number_st K4.st HG.out; unfold NumbS at cQ; rw [hq] at cQ)))
      | (go_at_call 58; go_loud (((with_reducible refine cQ.mono ?_); rintro e w9 h9; obtain ⟨rfl, k9⟩ := h9))))
    exact ⟨rfl, keyS_bad HX.out ⟨rfl, K4.kept.trans k9⟩⟩
  | ok x =>
    obtain ⟨x, l'⟩ := x
    have HX : Hid (R = .ok (.mk N [] [] x [] [], l', n + 1)) := Lib.hid (by rw [← HR.out, hq])
    go_enter Tryz.func36, Tryz.ntmps36
    go_upto_region 2 with fail
    rw [show (w.setCell ⟨P, 1, none⟩ (.int .i64 ((n : Int) + 1))).alloc (.cells #[.int .i64 0, .string ⟨#[]⟩, .string ⟨#[]⟩, .int .i64 0, .slice none 0 0, .slice none 0 0] 38) = w1 from HW.out]
    clear c0 c1 f1
    obtain ⟨c0, c1⟩ := two_cells K1.out.st.pars
    go_wp2_with (first
      | (go_at_call 53; go_loud (((with_reducible refine cW.mono ?_); rintro e w2 h2; obtain ⟨v2, rfl, hs2, st2, k2⟩ := h2; have K2 := K1.out.next hP k2 st2)))
      | (go_at_call 54; go_loud (((with_reducible refine (cGr _).mono ?_); rintro e w3 ⟨rfl, y3⟩; have K3 := K2.under y3; have cSy1 := cSy w3 (K3.st.glob HG.out).flag)))
      | (go_at_call 55; go_loud (((with_reducible refine cSy1.mono ?_); rintro e w4 ⟨rfl, y4⟩; have K4 := K3.under y4)))
      | (go_at_call 57; go_loud (((with_reducible refine (cNu _).mono ?_); rintro e w5 ⟨rfl, hw5⟩; rw [hw5]; clear hw5; have cQ := number_st K4.st HG.out; unfold NumbS at cQ; rw [hq] at cQ)))
      | (go_at_call 58; go_loud (((with_reducible refine cQ.mono ?_); rintro e w6 h6; obtain ⟨v6, rfl, st6, k6⟩ := h6; have K6 := K4.next hP k6 st6; obtain ⟨r0, r1, r2, r3, r4, r5⟩ := ksix_cells K6.res; have fz := Lib.frozen_of_heap K6.res))))
    refine bodyPost_ret (results_cell_row (P := Tryz.prog) rfl _ _ w.heap.size _ _ _ _ rfl (kset_six K6.res _ _ _ _ _ _) Tryz.underlying38 rfl key_size) rfl ?_
    exact K6.done hP (keyC_leaf _ _ _ _ _ _ (by decide) hnc) HX.out
set_option maxRecDepth 100000 in
set_option maxHeartbeats 16000000 in
theorem key_all (d D : Nat) (hD : D ≤ 6) (w0 : World) (hG : SrG w0) (P n : Nat) (v : Value) (t : Wd) (l : List Wd) (w : World) (h : StK w0 P n v (t :: l) w) (hn : n + 1 ≤ 60) (hk : t.kind ≠ 3) (hs : greatL t.text = [65, 76, 76]) :
    Calls Tryz.prog 36 #[.pointer (some ⟨P, 0, none⟩), .int .i64 (D : Int)] w (KeyS w0 P (keyK (d + 1) (t :: l) n) w) := by
  have hsys : sysK (greatL t.text) = none := by rw [hs]; decide
  have hr : keyK (d + 1) (t :: l) n = .ok (.mk 1 [] [] 0 [] [], l, n + 1) := by
    rw [keyK_cons, if_neg (by omega), if_neg hk]
    unfold plainK
    rw [hsys]
    simp only
    rw [hs, if_neg (by decide)]
    rfl
  obtain ⟨R, hR⟩ : ∃ R, keyK (d + 1) (t :: l) n = R := ⟨_, rfl⟩
  rw [hR]
  have HR := Lib.hid (hr.symm.trans hR)
  obtain ⟨a, c, rfl, -, -⟩ := h.words.val
  obtain ⟨g, off, va, vc, rfl, -, hc1, hc2, hg, x0, -, -, ht, -, -⟩ := h.words.cons
  have hP := h.pars.lt
  have hB := h.low
  have hgP : g ≠ P := by omega
  have hK1 := keyB_at h
  obtain ⟨c0, c1⟩ := two_cells h.pars
  have f1 := Lib.frozen_of_heap h.pars 1
  have h6z : decide ((6 : Int) < (D : Int)) = false := decide_eq_false (by omega)
  have h60z : decide ((60 : Int) < (n : Int) + 1) = false := decide_eq_false (by omega)
  have hkd : decide (t.kind = 3) = false := decide_eq_false hk
  have hkb : (t.kind == 3) = false := by rw [beq_eq_false_iff_ne]; exact hk
  obtain ⟨w1, hw1⟩ : ∃ w1, keyB w P n = w1 := ⟨_, rfl⟩
  rw [hw1] at hK1
  have y0 : ∀ j, j < w0.heap.size → w1.heap[j]? = w.heap[j]? := fun j hj => hK1.kept.block j (by omega) (by omega)
  have d0 := (World.cell?_of_block (w := w) (a := ⟨g, off, none⟩) (y0 g hg)).trans x0
  have K1 := Lib.hid hK1
  have HW := Lib.hid hw1
  have HG := Lib.hid hG
  have HT := Lib.hid ht
  have hgl : (greatL t.text).length ≤ 2000000 := by unfold greatL; rw [List.length_map]; exact ht
  have cW := word_st hK1.st
  unfold WordS at cW
  rw [show wordK (t :: l) = .ok (t.text, l) by rw [wordK, if_neg hk]] at cW
  have cGr := fun W => great_l t.text W ht
  have cSy := fun W hW => ofSystem_any (greatL t.text) W hgl hW
  have cNu := fun W => ofNumber_any (greatL t.text) W
  rw [hs] at cSy cNu cGr hsys
  have cSy : ∀ W, FlagG W → Calls Tryz.prog 55 #[.string ⟨([65, 76, 76]).toArray⟩] W fun e w' => e = .returned (.tuple #[.string ⟨#[]⟩, .bool false, .bool false]) ∧ Below W.heap.size W w' := fun W hW => by
    have := cSy W hW
    rw [hsys] at this
    exact this
  rw [show numsK [65, 76, 76] = 0 by decide] at cNu
  clear hsys hs
  clear h hK1 hw1 x0 y0 hr hR hk hG ht hgl
  have HX : Hid (R = .ok (.mk 1 [] [] 0 [] [], l, n + 1)) := Lib.hid HR.out.symm
  go_enter Tryz.func36, Tryz.ntmps36
  go_upto_region 2 with fail
  rw [show (w.setCell ⟨P, 1, none⟩ (.int .i64 ((n : Int) + 1))).alloc (.cells #[.int .i64 0, .string ⟨#[]⟩, .string ⟨#[]⟩, .int .i64 0, .slice none 0 0, .slice none 0 0] 38) = w1 from HW.out]
  clear c0 c1 f1
  obtain ⟨c0, c1⟩ := two_cells K1.out.st.pars
  go_wp2_with (first
    | (go_at_call 53; go_loud (((with_reducible refine cW.mono ?_); rintro e w2 h2; obtain ⟨v2, rfl, hs2, st2, k2⟩ := h2; have K2 := K1.out.next hP k2 st2)))
    | (go_at_call 54; go_loud (((with_reducible refine (cGr _).mono ?_); rintro e w3 ⟨rfl, y3⟩; have K3 := K2.under y3; have cSy1 := cSy w3 (K3.st.glob HG.out).flag)))
    | (go_at_call 55; go_loud (((with_reducible refine cSy1.mono ?_); rintro e w4 ⟨rfl, y4⟩; have K4 := K3.under y4; obtain ⟨r0, r1, r2, r3, r4, r5⟩ := ksix_cells K4.res; have fz := Lib.frozen_of_heap K4.res)))
    | (go_at_call 57; go_loud (((with_reducible refine (cNu _).mono ?_); rintro e w5 ⟨rfl, hw5⟩; rw [hw5]; clear hw5))))
  refine bodyPost_ret (results_cell_row (P := Tryz.prog) rfl _ _ w.heap.size _ _ _ _ rfl (kset_six K4.res _ _ _ _ _ _) Tryz.underlying38 rfl key_size) rfl ?_
  exact K4.done hP (keyC_leaf _ _ _ _ _ _ (by decide) (by decide)) HX.out
end Go.Proofs.YtgblgbhfgiajiaaGreatDoor
namespace Go.Proofs.YtgblgbhfgiajiaaGreatDoor
open Go.RowKit Go.Shelf Go.Sort
set_option linter.unusedSimpArgs false

set_option maxRecDepth 100000 in
set_option maxHeartbeats 16000000 in
theorem key_not (d D : Nat) (hD : D ≤ 6) (w0 : World) (hG : SrG w0) (IH : ∀ (P n : Nat) (v : Value) (l : List Wd) (w : World), n ≤ 60 → StK w0 P n v l w → Calls Tryz.prog 36 #[.pointer (some ⟨P, 0, none⟩), .int .i64 ((D : Int) + 1)] w (KeyS w0 P (keyK d l n) w)) (P n : Nat) (v : Value) (t : Wd) (l : List Wd) (w : World) (h : StK w0 P n v (t :: l) w) (hn : n + 1 ≤ 60) (hk : t.kind ≠ 3) (hs : greatL t.text = [78, 79, 84]) :
    Calls Tryz.prog 36 #[.pointer (some ⟨P, 0, none⟩), .int .i64 (D : Int)] w (KeyS w0 P (keyK (d + 1) (t :: l) n) w) := by
  have hsys : sysK (greatL t.text) = none := by rw [hs]; decide
  have hr : keyK (d + 1) (t :: l) n = match keyK d l (n + 1) with | .error e => .error e | .ok (k, l', n') => .ok (notK k, l', n') := by
    rw [keyK_cons, if_neg (by omega), if_neg hk]
    unfold plainK
    rw [hsys]
    simp only
    rw [hs, if_neg (by decide)]
    show ((match keyK d l (n + 1) with | .error e => .error e | .ok (k, l', n') => .ok (notK k, l', n')) : KeyE) = _
    cases keyK d l (n + 1) <;> rfl
  obtain ⟨R, hR⟩ : ∃ R, keyK (d + 1) (t :: l) n = R := ⟨_, rfl⟩
  rw [hR]
  have HR := Lib.hid (hr.symm.trans hR)
  obtain ⟨a, c, rfl, -, -⟩ := h.words.val
  obtain ⟨g, off, va, vc, rfl, -, hc1, hc2, hg, x0, -, -, ht, -, -⟩ := h.words.cons
  have hP := h.pars.lt
  have hB := h.low
  have hgP : g ≠ P := by omega
  have hK1 := keyB_at h
  obtain ⟨c0, c1⟩ := two_cells h.pars
  have f1 := Lib.frozen_of_heap h.pars 1
  have h6z : decide ((6 : Int) < (D : Int)) = false := decide_eq_false (by omega)
  have h60z : decide ((60 : Int) < (n : Int) + 1) = false := decide_eq_false (by omega)
  have hkd : decide (t.kind = 3) = false := decide_eq_false hk
  have hkb : (t.kind == 3) = false := by rw [beq_eq_false_iff_ne]; exact hk
  obtain ⟨w1, hw1⟩ : ∃ w1, keyB w P n = w1 := ⟨_, rfl⟩
  rw [hw1] at hK1
  have y0 : ∀ j, j < w0.heap.size → w1.heap[j]? = w.heap[j]? := fun j hj => hK1.kept.block j (by omega) (by omega)
  have d0 := (World.cell?_of_block (w := w) (a := ⟨g, off, none⟩) (y0 g hg)).trans x0
  have K1 := Lib.hid hK1
  have HW := Lib.hid hw1
  have HG := Lib.hid hG
  have HT := Lib.hid ht
  have hgl : (greatL t.text).length ≤ 2000000 := by unfold greatL; rw [List.length_map]; exact ht
  have cW := word_st hK1.st
  unfold WordS at cW
  rw [show wordK (t :: l) = .ok (t.text, l) by rw [wordK, if_neg hk]] at cW
  have cGr := fun W => great_l t.text W ht
  have cSy := fun W hW => ofSystem_any (greatL t.text) W hgl hW
  have cNu := fun W => ofNumber_any (greatL t.text) W
  rw [hs] at cSy cNu cGr hsys
  have cSy : ∀ W, FlagG W → Calls Tryz.prog 55 #[.string ⟨([78, 79, 84]).toArray⟩] W fun e w' => e = .returned (.tuple #[.string ⟨#[]⟩, .bool false, .bool false]) ∧ Below W.heap.size W w' := fun W hW => by
    have := cSy W hW
    rw [hsys] at this
    exact this
  rw [show numsK [78, 79, 84] = 0 by decide] at cNu
  clear hsys hs
  clear h hK1 hw1 x0 y0 hr hR hk hG ht hgl
  have HIH := Lib.hid IH
  clear IH
  cases hq : keyK d l (n + 1) with
  | error E =>
    have HX : Hid (R = .error E) := Lib.hid (by rw [← HR.out, hq])
    go_enter Tryz.func36, Tryz.ntmps36
    go_upto_region 2 with fail
    rw [show (w.setCell ⟨P, 1, none⟩ (.int .i64 ((n : Int) + 1))).alloc (.cells #[.int .i64 0, .string ⟨#[]⟩, .string ⟨#[]⟩, .int .i64 0, .slice none 0 0, .slice none 0 0] 38) = w1 from HW.out]
    clear c0 c1 f1
    obtain ⟨c0, c1⟩ := two_cells K1.out.st.pars
    go_wp2_with (first
      | (go_at_call 53; go_loud (((with_reducible refine cW.mono ?_); rintro e w2 h2; obtain ⟨v2, rfl, hs2, st2, k2⟩ := h2; have K2 := K1.out.next hP k2 st2)))
      | (go_at_call 54; go_loud (((with_reducible refine (cGr _).mono ?_); rintro e w3 ⟨rfl, y3⟩; have K3 := K2.under y3; have cSy1 := cSy w3 (K3.st.glob HG.out).flag)))
      | (go_at_call 55; go_loud (((with_reducible refine cSy1.mono ?_); rintro e w4 ⟨rfl, y4⟩; have K4 := K3.under y4)))
      | (go_at_call 57; go_loud (((with_reducible refine (cNu _).mono ?_); rintro e w5 ⟨rfl, hw5⟩; rw [hw5]; clear hw5; have cQ := HIH.out _ _ _ _ _ hn K4.st; unfold KeyS at cQ; rw [hq] at cQ)))
      | (go_at_call 36; go_loud (((with_reducible refine cQ.mono ?_); rintro e w9 h9; obtain ⟨rfl, k9⟩ := h9))))
    exact ⟨rfl, keyS_bad HX.out ⟨rfl, K4.kept.trans k9⟩⟩
  | ok x =>
    obtain ⟨k, l', n'⟩ := x
    have HX : Hid (R = .ok (notK k, l', n')) := Lib.hid (by rw [← HR.out, hq])
    go_enter Tryz.func36, Tryz.ntmps36
    go_upto_region 2 with fail
    rw [show (w.setCell ⟨P, 1, none⟩ (.int .i64 ((n : Int) + 1))).alloc (.cells #[.int .i64 0, .string ⟨#[]⟩, .string ⟨#[]⟩, .int .i64 0, .slice none 0 0, .slice none 0 0] 38) = w1 from HW.out]
    clear c0 c1 f1
    obtain ⟨c0, c1⟩ := two_cells K1.out.st.pars
    go_wp2_with (first
      | (go_at_call 53; go_loud (((with_reducible refine cW.mono ?_); rintro e w2 h2; obtain ⟨v2, rfl, hs2, st2, k2⟩ := h2; have K2 := K1.out.next hP k2 st2)))
      | (go_at_call 54; go_loud (((with_reducible refine (cGr _).mono ?_); rintro e w3 ⟨rfl, y3⟩; have K3 := K2.under y3; have cSy1 := cSy w3 (K3.st.glob HG.out).flag)))
      | (go_at_call 55; go_loud (((with_reducible refine cSy1.mono ?_); rintro e w4 ⟨rfl, y4⟩; have K4 := K3.under y4)))
      | (go_at_call 57; go_loud (((with_reducible refine (cNu _).mono ?_); rintro e w5 ⟨rfl, hw5⟩; rw [hw5]; clear hw5; have cQ := HIH.out _ _ _ _ _ hn K4.st; unfold KeyS at cQ; rw [hq] at cQ)))
      | (go_at_call 36; go_loud (((with_reducible refine cQ.mono ?_); rintro e w6 h6; obtain ⟨v6, cs, rfl, hc6, st6, k6⟩ := h6; obtain ⟨code, name, text, kn, set, keys, sa, kb, sc, kcc, rfl⟩ := hc6.six; have hs4 := K4.size; have K6 := K4.next hP k6 st6; have cNo := notK_any (.int .i64 code) (.string ⟨name.toArray⟩) (.string ⟨text.toArray⟩) (.int .i64 kn) (.slice sa set.length sc) (.slice kb keys.length kcc) w6)))
      | (go_at_call 56; go_loud (((with_reducible refine cNo.mono ?_); rintro e w8 ⟨rfl, y8, hz8⟩; have K8 := K6.under y8; have hs6 := K6.size; obtain ⟨r0, r1, r2, r3, r4, r5⟩ := ksix_cells K8.res; have fz := Lib.frozen_of_heap K8.res))))
    refine bodyPost_ret (results_cell_row (P := Tryz.prog) rfl _ _ w.heap.size _ _ _ _ rfl (kset_six K8.res _ _ _ _ _ _) Tryz.underlying38 rfl key_size) rfl ?_
    exact K8.done hP (keyC_one hz8 (by omega) (hc6.keep y8.size (fun j _ hj => y8.block j hj) (fun j hj _ => by have : w4.heap.size ≤ j := hj; omega))) HX.out
end Go.Proofs.YtgblgbhfgiajiaaGreatDoor
namespace Go.Proofs.YtgblgbhfgiajiaaGreatDoor
open Go.RowKit Go.Shelf Go.Sort
set_option linter.unusedSimpArgs false

set_option maxRecDepth 100000 in
set_option maxHeartbeats 16000000 in
theorem key_or (d D : Nat) (hD : D ≤ 6) (w0 : World) (hG : SrG w0) (IH : ∀ (P n : Nat) (v : Value) (l : List Wd) (w : World), n ≤ 60 → StK w0 P n v l w → Calls Tryz.prog 36 #[.pointer (some ⟨P, 0, none⟩), .int .i64 ((D : Int) + 1)] w (KeyS w0 P (keyK d l n) w)) (P n : Nat) (v : Value) (t : Wd) (l : List Wd) (w : World) (h : StK w0 P n v (t :: l) w) (hn : n + 1 ≤ 60) (hk : t.kind ≠ 3) (hs : greatL t.text = [79, 82]) :
    Calls Tryz.prog 36 #[.pointer (some ⟨P, 0, none⟩), .int .i64 (D : Int)] w (KeyS w0 P (keyK (d + 1) (t :: l) n) w) := by
  have hsys : sysK (greatL t.text) = none := by rw [hs]; decide
  have hr : keyK (d + 1) (t :: l) n = match keyK d l (n + 1) with | .error e => .error e | .ok (x, l1, n1) => (match keyK d l1 n1 with | .error e => .error e | .ok (y, l2, n2) => .ok (.mk 14 [] [] 0 [] [x, y], l2, n2)) := by
    rw [keyK_cons, if_neg (by omega), if_neg hk]
    unfold plainK
    rw [hsys]
    simp only
    rw [hs, if_neg (by decide)]
    show ((match keyK d l (n + 1) with | .error e => .error e | .ok (x, l1, n1) => (match keyK d l1 n1 with | .error e => .error e | .ok (y, l2, n2) => .ok (.mk 14 [] [] 0 [] [x, y], l2, n2))) : KeyE) = _
    cases keyK d l (n + 1) <;> rfl
  obtain ⟨R, hR⟩ : ∃ R, keyK (d + 1) (t :: l) n = R := ⟨_, rfl⟩
  rw [hR]
  have HR := Lib.hid (hr.symm.trans hR)
  obtain ⟨a, c, rfl, -, -⟩ := h.words.val
  obtain ⟨g, off, va, vc, rfl, -, hc1, hc2, hg, x0, -, -, ht, -, -⟩ := h.words.cons
  have hP := h.pars.lt
  have hB := h.low
  have hgP : g ≠ P := by omega
  have hK1 := keyB_at h
  obtain ⟨c0, c1⟩ := two_cells h.pars
  have f1 := Lib.frozen_of_heap h.pars 1
  have h6z : decide ((6 : Int) < (D : Int)) = false := decide_eq_false (by omega)
  have h60z : decide ((60 : Int) < (n : Int) + 1) = false := decide_eq_false (by omega)
  have hkd : decide (t.kind = 3) = false := decide_eq_false hk
  have hkb : (t.kind == 3) = false := by rw [beq_eq_false_iff_ne]; exact hk
  obtain ⟨w1, hw1⟩ : ∃ w1, keyB w P n = w1 := ⟨_, rfl⟩
  rw [hw1] at hK1
  have y0 : ∀ j, j < w0.heap.size → w1.heap[j]? = w.heap[j]? := fun j hj => hK1.kept.block j (by omega) (by omega)
  have d0 := (World.cell?_of_block (w := w) (a := ⟨g, off, none⟩) (y0 g hg)).trans x0
  have K1 := Lib.hid hK1
  have HW := Lib.hid hw1
  have HG := Lib.hid hG
  have HT := Lib.hid ht
  have hgl : (greatL t.text).length ≤ 2000000 := by unfold greatL; rw [List.length_map]; exact ht
  have cW := word_st hK1.st
  unfold WordS at cW
  rw [show wordK (t :: l) = .ok (t.text, l) by rw [wordK, if_neg hk]] at cW
  have cGr := fun W => great_l t.text W ht
  have cSy := fun W hW => ofSystem_any (greatL t.text) W hgl hW
  have cNu := fun W => ofNumber_any (greatL t.text) W
  rw [hs] at cSy cNu cGr hsys
  have cSy : ∀ W, FlagG W → Calls Tryz.prog 55 #[.string ⟨([79, 82]).toArray⟩] W fun e w' => e = .returned (.tuple #[.string ⟨#[]⟩, .bool false, .bool false]) ∧ Below W.heap.size W w' := fun W hW => by
    have := cSy W hW
    rw [hsys] at this
    exact this
  rw [show numsK [79, 82] = 0 by decide] at cNu
  clear hsys hs
  clear h hK1 hw1 x0 y0 hr hR hk hG ht hgl
  have HIH := Lib.hid IH
  have HS := Lib.hid (key_step d)
  clear IH
  cases hq : keyK d l (n + 1) with
  | error E =>
    have HX : Hid (R = .error E) := Lib.hid (by rw [← HR.out, hq])
    go_enter Tryz.func36, Tryz.ntmps36
    go_upto_region 2 with fail
    rw [show (w.setCell ⟨P, 1, none⟩ (.int .i64 ((n : Int) + 1))).alloc (.cells #[.int .i64 0, .string ⟨#[]⟩, .string ⟨#[]⟩, .int .i64 0, .slice none 0 0, .slice none 0 0] 38) = w1 from HW.out]
    clear c0 c1 f1
    obtain ⟨c0, c1⟩ := two_cells K1.out.st.pars
    go_wp2_with (first
      | (go_at_call 53; go_loud (((with_reducible refine cW.mono ?_); rintro e w2 h2; obtain ⟨v2, rfl, hs2, st2, k2⟩ := h2; have K2 := K1.out.next hP k2 st2)))
      | (go_at_call 54; go_loud (((with_reducible refine (cGr _).mono ?_); rintro e w3 ⟨rfl, y3⟩; have K3 := K2.under y3; have cSy1 := cSy w3 (K3.st.glob HG.out).flag)))
      | (go_at_call 55; go_loud (((with_reducible refine cSy1.mono ?_); rintro e w4 ⟨rfl, y4⟩; have K4 := K3.under y4)))
      | (go_at_call 57; go_loud (((with_reducible refine (cNu _).mono ?_); rintro e w5 ⟨rfl, hw5⟩; rw [hw5]; clear hw5; have cQ := HIH.out _ _ _ _ _ hn K4.st; unfold KeyS at cQ; rw [hq] at cQ)))
      | (go_at_call 36; go_loud (((with_reducible refine cQ.mono ?_); rintro e w9 h9; obtain ⟨rfl, k9⟩ := h9))))
    exact ⟨rfl, keyS_bad HX.out ⟨rfl, K4.kept.trans k9⟩⟩
  | ok x =>
    obtain ⟨x, l1, n1⟩ := x
    obtain ⟨-, hn0, hn1⟩ := HS.out _ _ _ _ _ hq
    rw [hq] at HR
    simp only at HR
    cases hq2 : keyK d l1 n1 with
    | error E =>
      have HX : Hid (R = .error E) := Lib.hid (by rw [← HR.out, hq2])
      clear HR
      go_enter Tryz.func36, Tryz.ntmps36
      go_upto_region 2 with fail
      rw [show (w.setCell ⟨P, 1, none⟩ (.int .i64 ((n : Int) + 1))).alloc (.cells #[.int .i64 0, .string ⟨#[]⟩, .string ⟨#[]⟩, .int .i64 0, .slice none 0 0, .slice none 0 0] 38) = w1 from HW.out]
      clear c0 c1 f1
      obtain ⟨c0, c1⟩ := two_cells K1.out.st.pars
      go_upto_region 47 with (first
        | (go_at_call 53; go_loud (((with_reducible refine cW.mono ?_); rintro e w2 h2; obtain ⟨v2, rfl, hs2, st2, k2⟩ := h2; have K2 := K1.out.next hP k2 st2)))
        | (go_at_call 54; go_loud (((with_reducible refine (cGr _).mono ?_); rintro e w3 ⟨rfl, y3⟩; have K3 := K2.under y3; have cSy1 := cSy w3 (K3.st.glob HG.out).flag)))
        | (go_at_call 55; go_loud (((with_reducible refine cSy1.mono ?_); rintro e w4 ⟨rfl, y4⟩; have K4 := K3.under y4)))
        | (go_at_call 57; go_loud (((with_reducible refine (cNu _).mono ?_); rintro e w5 ⟨rfl, hw5⟩; rw [hw5]; clear hw5; have cQ := HIH.out _ _ _ _ _ hn K4.st; unfold KeyS at cQ; rw [hq] at cQ)))
        | (go_at_call 36; go_loud (((with_reducible refine cQ.mono ?_); rintro e w6 h6; obtain ⟨v6, cs, rfl, hc6, st6, k6⟩ := h6; obtain ⟨code, name, text, kn, set, keys, sa, kb, sc, kcc, rfl⟩ := hc6.six; have hs4 := K4.size; have K6 := K4.next hP k6 st6))))
      have hb7 := ((Below.refl w6.heap.size w6).alloc (Nat.le_refl _) (.cells #[.int .i64 code, .string ⟨name.toArray⟩, .string ⟨text.toArray⟩, .int .i64 kn, .slice sa set.length sc, .slice kb keys.length kcc] 38))
      have hz7 := World.heap_alloc_new w6 (.cells #[.int .i64 code, .string ⟨name.toArray⟩, .string ⟨text.toArray⟩, .int .i64 kn, .slice sa set.length sc, .slice kb keys.length kcc] 38)
      have hs6 := K6.size
      have K7 := K6.under hb7
      have hc7 := hc6.keep (ok' := fun j => w4.heap.size ≤ j) hb7.size (fun j _ hj => hb7.block j hj) (fun j hj _ => hj)
      generalize w6.alloc (.cells #[.int .i64 code, .string ⟨name.toArray⟩, .string ⟨text.toArray⟩, .int .i64 kn, .slice sa set.length sc, .slice kb keys.length kcc] 38) = w7 at hz7 K7 hc7 ⊢
      obtain ⟨X, hX⟩ : ∃ X, w6.heap.size = X := ⟨_, rfl⟩
      rw [hX] at hz7 ⊢
      have hXP : X ≠ P := by omega
      have hRX : w.heap.size ≠ X := by omega
      have hRP : w.heap.size ≠ P := by omega
      have hRX2 : w.heap.size < X := by omega
      clear hb7 K6 hc6 hX c0 c1 K1 HW cW
      have K8 := K7.under ((Below.refl w7.heap.size w7).drew)
      have hz8 : w7.drew.heap[X]? = some (.cells #[.int .i64 code, .string ⟨name.toArray⟩, .string ⟨text.toArray⟩, .int .i64 kn, .slice sa set.length sc, .slice kb keys.length kcc] 38 (0, 0)) := hz7
      have hc8 : KeyC w7.drew (fun j => w4.heap.size ≤ j) [.int .i64 code, .string ⟨name.toArray⟩, .string ⟨text.toArray⟩, .int .i64 kn, .slice sa set.length sc, .slice kb keys.length kcc] x := hc7.keep (Nat.le_refl _) (fun _ _ _ => rfl) (fun _ h _ => h)
      obtain ⟨z0, z1, z2, z3, z4, z5⟩ := ksix_cells hz8
      have cQ2 := HIH.out _ _ _ _ _ hn1 K8.st
      unfold KeyS at cQ2
      rw [hq2] at cQ2
      have hDw : IntKind.i64.wrap ((D : Int) + 1) = (D : Int) + 1 := IntWalk.i64_in _ (by omega)
      have hS0 : (fun _ : World => True) w7.drew := trivial
      have hS1 : (fun W : World => W.cell? ⟨X, 0, none⟩ = some (.int .i64 code) ∧ W.cell? ⟨X, 1, none⟩ = some (.string ⟨name.toArray⟩) ∧ W.cell? ⟨X, 2, none⟩ = some (.string ⟨text.toArray⟩) ∧ W.cell? ⟨X, 3, none⟩ = some (.int .i64 kn) ∧ W.cell? ⟨X, 4, none⟩ = some (.slice sa set.length sc) ∧ W.cell? ⟨X, 5, none⟩ = some (.slice kb keys.length kcc)) w7.drew := ⟨z0, z1, z2, z3, z4, z5⟩
      clear z0 z1 z2 z3 z4 z5
      refine until_start (S := fun W => W.cell? ⟨X, 0, none⟩ = some (.int .i64 code) ∧ W.cell? ⟨X, 1, none⟩ = some (.string ⟨name.toArray⟩) ∧ W.cell? ⟨X, 2, none⟩ = some (.string ⟨text.toArray⟩) ∧ W.cell? ⟨X, 3, none⟩ = some (.int .i64 kn) ∧ W.cell? ⟨X, 4, none⟩ = some (.slice sa set.length sc) ∧ W.cell? ⟨X, 5, none⟩ = some (.slice kb keys.length kcc)) (S0 := fun _ => True) (t := 5) (by kernel_rfl) ?_
      generalize w7.drew = wd at *
      refine until_take (i := 0) (v := ?v0e) rfl (by kernel_rfl) (by kernel_rfl) (by kernel_rfl) (by kernel_rfl) (fun _ _ _ h => h) (Or.inl ⟨by rfl, ?y0e⟩) hS0 hS1 ?r0e
      case y0e => (intro W hSw; (try dsimp only at hSw); go_simp; try with_reducible rfl)
      try simp only [Act.put, List.setIfInBounds_toArray, List.set_cons_zero, List.set_cons_succ]
      refine until_take0 (i := 1) (v := ?v1e) rfl (by kernel_rfl) (by kernel_rfl) (by kernel_rfl) (by rfl) (fun _ _ _ h => h) (Or.inl ⟨by rfl, ?y1e⟩) hS0 (fun _ => hS1) ?r1e
      case y1e => (intro W hSw; (try dsimp only at hSw); go_simp; try with_reducible rfl)
      try simp only [Act.put, List.setIfInBounds_toArray, List.set_cons_zero, List.set_cons_succ]
      refine until_take0 (i := 2) (v := ?v2e) rfl (by kernel_rfl) (by kernel_rfl) (by kernel_rfl) (by rfl) (fun _ _ _ h => h) (Or.inl ⟨by rfl, ?y2e⟩) hS0 (fun _ => hS1) ?r2e
      case y2e => (intro W hSw; (try dsimp only at hSw); go_simp; try with_reducible rfl)
      try simp only [Act.put, List.setIfInBounds_toArray, List.set_cons_zero, List.set_cons_succ]
      refine until_take0 (i := 3) (v := ?v3e) rfl (by kernel_rfl) (by kernel_rfl) (by kernel_rfl) (by rfl) (fun _ _ _ h => h) (Or.inl ⟨by rfl, ?y3e⟩) hS0 (fun _ => hS1) ?r3e
      case y3e => (intro W hSw; (try dsimp only at hSw); go_simp; try with_reducible rfl)
      try simp only [Act.put, List.setIfInBounds_toArray, List.set_cons_zero, List.set_cons_succ]
      refine until_step (i := 4) (by kernel_rfl) rfl (fun K hK => ?_)
      go_simp
      (with_reducible refine cQ2.mono ?_)
      rintro e w9 h9
      obtain ⟨rfl, k9⟩ : FailsK P E wd e w9 := h9
      go_wp2_with fail
      exact ⟨rfl, keyS_bad HX.out ⟨rfl, K8.kept.trans k9⟩⟩
    | ok y =>
      obtain ⟨y, l2, n2⟩ := y
      have HX : Hid (R = .ok (.mk 14 [] [] 0 [] [x, y], l2, n2)) := Lib.hid (by rw [← HR.out, hq2])
      clear HR
      go_enter Tryz.func36, Tryz.ntmps36
      go_upto_region 2 with fail
      rw [show (w.setCell ⟨P, 1, none⟩ (.int .i64 ((n : Int) + 1))).alloc (.cells #[.int .i64 0, .string ⟨#[]⟩, .string ⟨#[]⟩, .int .i64 0, .slice none 0 0, .slice none 0 0] 38) = w1 from HW.out]
      clear c0 c1 f1
      obtain ⟨c0, c1⟩ := two_cells K1.out.st.pars
      go_upto_region 47 with (first
        | (go_at_call 53; go_loud (((with_reducible refine cW.mono ?_); rintro e w2 h2; obtain ⟨v2, rfl, hs2, st2, k2⟩ := h2; have K2 := K1.out.next hP k2 st2)))
        | (go_at_call 54; go_loud (((with_reducible refine (cGr _).mono ?_); rintro e w3 ⟨rfl, y3⟩; have K3 := K2.under y3; have cSy1 := cSy w3 (K3.st.glob HG.out).flag)))
        | (go_at_call 55; go_loud (((with_reducible refine cSy1.mono ?_); rintro e w4 ⟨rfl, y4⟩; have K4 := K3.under y4)))
        | (go_at_call 57; go_loud (((with_reducible refine (cNu _).mono ?_); rintro e w5 ⟨rfl, hw5⟩; rw [hw5]; clear hw5; have cQ := HIH.out _ _ _ _ _ hn K4.st; unfold KeyS at cQ; rw [hq] at cQ)))
        | (go_at_call 36; go_loud (((with_reducible refine cQ.mono ?_); rintro e w6 h6; obtain ⟨v6, cs, rfl, hc6, st6, k6⟩ := h6; obtain ⟨code, name, text, kn, set, keys, sa, kb, sc, kcc, rfl⟩ := hc6.six; have hs4 := K4.size; have K6 := K4.next hP k6 st6))))
      have hb7 := ((Below.refl w6.heap.size w6).alloc (Nat.le_refl _) (.cells #[.int .i64 code, .string ⟨name.toArray⟩, .string ⟨text.toArray⟩, .int .i64 kn, .slice sa set.length sc, .slice kb keys.length kcc] 38))
      have hz7 := World.heap_alloc_new w6 (.cells #[.int .i64 code, .string ⟨name.toArray⟩, .string ⟨text.toArray⟩, .int .i64 kn, .slice sa set.length sc, .slice kb keys.length kcc] 38)
      have hs6 := K6.size
      have K7 := K6.under hb7
      have hc7 := hc6.keep (ok' := fun j => w4.heap.size ≤ j) hb7.size (fun j _ hj => hb7.block j hj) (fun j hj _ => hj)
      generalize w6.alloc (.cells #[.int .i64 code, .string ⟨name.toArray⟩, .string ⟨text.toArray⟩, .int .i64 kn, .slice sa set.length sc, .slice kb keys.length kcc] 38) = w7 at hz7 K7 hc7 ⊢
      obtain ⟨X, hX⟩ : ∃ X, w6.heap.size = X := ⟨_, rfl⟩
      rw [hX] at hz7 ⊢
      have hXP : X ≠ P := by omega
      have hRX : w.heap.size ≠ X := by omega
      have hRP : w.heap.size ≠ P := by omega
      have hRX2 : w.heap.size < X := by omega
      clear hb7 K6 hc6 hX c0 c1 K1 HW cW
      have K8 := K7.under ((Below.refl w7.heap.size w7).drew)
      have hz8 : w7.drew.heap[X]? = some (.cells #[.int .i64 code, .string ⟨name.toArray⟩, .string ⟨text.toArray⟩, .int .i64 kn, .slice sa set.length sc, .slice kb keys.length kcc] 38 (0, 0)) := hz7
      have hc8 : KeyC w7.drew (fun j => w4.heap.size ≤ j) [.int .i64 code, .string ⟨name.toArray⟩, .string ⟨text.toArray⟩, .int .i64 kn, .slice sa set.length sc, .slice kb keys.length kcc] x := hc7.keep (Nat.le_refl _) (fun _ _ _ => rfl) (fun _ h _ => h)
      obtain ⟨z0, z1, z2, z3, z4, z5⟩ := ksix_cells hz8
      have cQ2 := HIH.out _ _ _ _ _ hn1 K8.st
      unfold KeyS at cQ2
      rw [hq2] at cQ2
      have hDw : IntKind.i64.wrap ((D : Int) + 1) = (D : Int) + 1 := IntWalk.i64_in _ (by omega)
      have hS0 : (fun _ : World => True) w7.drew := trivial
      have hS1 : (fun W : World => W.cell? ⟨X, 0, none⟩ = some (.int .i64 code) ∧ W.cell? ⟨X, 1, none⟩ = some (.string ⟨name.toArray⟩) ∧ W.cell? ⟨X, 2, none⟩ = some (.string ⟨text.toArray⟩) ∧ W.cell? ⟨X, 3, none⟩ = some (.int .i64 kn) ∧ W.cell? ⟨X, 4, none⟩ = some (.slice sa set.length sc) ∧ W.cell? ⟨X, 5, none⟩ = some (.slice kb keys.length kcc)) w7.drew := ⟨z0, z1, z2, z3, z4, z5⟩
      clear z0 z1 z2 z3 z4 z5
      refine until_start (S := fun W => W.cell? ⟨X, 0, none⟩ = some (.int .i64 code) ∧ W.cell? ⟨X, 1, none⟩ = some (.string ⟨name.toArray⟩) ∧ W.cell? ⟨X, 2, none⟩ = some (.string ⟨text.toArray⟩) ∧ W.cell? ⟨X, 3, none⟩ = some (.int .i64 kn) ∧ W.cell? ⟨X, 4, none⟩ = some (.slice sa set.length sc) ∧ W.cell? ⟨X, 5, none⟩ = some (.slice kb keys.length kcc)) (S0 := fun _ => True) (t := 5) (by kernel_rfl) ?_
      generalize w7.drew = wd at *
      refine until_take (i := 0) (v := ?v0) rfl (by kernel_rfl) (by kernel_rfl) (by kernel_rfl) (by kernel_rfl) (fun _ _ _ h => h) (Or.inl ⟨by rfl, ?y0⟩) hS0 hS1 ?r0
      case y0 => (intro W hSw; (try dsimp only at hSw); go_simp; try with_reducible rfl)
      try simp only [Act.put, List.setIfInBounds_toArray, List.set_cons_zero, List.set_cons_succ]
      refine until_take0 (i := 1) (v := ?v1) rfl (by kernel_rfl) (by kernel_rfl) (by kernel_rfl) (by rfl) (fun _ _ _ h => h) (Or.inl ⟨by rfl, ?y1⟩) hS0 (fun _ => hS1) ?r1
      case y1 => (intro W hSw; (try dsimp only at hSw); go_simp; try with_reducible rfl)
      try simp only [Act.put, List.setIfInBounds_toArray, List.set_cons_zero, List.set_cons_succ]
      refine until_take0 (i := 2) (v := ?v2) rfl (by kernel_rfl) (by kernel_rfl) (by kernel_rfl) (by rfl) (fun _ _ _ h => h) (Or.inl ⟨by rfl, ?y2⟩) hS0 (fun _ => hS1) ?r2
      case y2 => (intro W hSw; (try dsimp only at hSw); go_simp; try with_reducible rfl)
      try simp only [Act.put, List.setIfInBounds_toArray, List.set_cons_zero, List.set_cons_succ]
      refine until_take0 (i := 3) (v := ?v3) rfl (by kernel_rfl) (by kernel_rfl) (by kernel_rfl) (by rfl) (fun _ _ _ h => h) (Or.inl ⟨by rfl, ?y3⟩) hS0 (fun _ => hS1) ?r3
      case y3 => (intro W hSw; (try dsimp only at hSw); go_simp; try with_reducible rfl)
      try simp only [Act.put, List.setIfInBounds_toArray, List.set_cons_zero, List.set_cons_succ]
      refine until_step (i := 4) (by kernel_rfl) rfl (fun K hK => ?_)
      go_simp
      (with_reducible refine cQ2.mono ?_)
      rintro e w9 h9
      obtain ⟨v9, cs, rfl, hc9, st9, k9⟩ : ∃ v cs, e = .returned (.agg cs.toArray) ∧ KeyC w9 (fun j => wd.heap.size ≤ j) cs y ∧ StK w0 P n2 v l2 w9 ∧ Kept (fun k => k = P) wd w9 := h9
      obtain ⟨code2, name2, text2, kn2, set2, keys2, sa2, kb2, sc2, kcc2, rfl⟩ := hc9.six
      have hs8 := K8.size
      have K9 := K8.next hP k9 st9
      have hz9 := k9.obj hz8 hXP
      have hc8' := hc8.keep (W' := w9) (ok' := fun j => w.heap.size < j) k9.size (fun j hj hl => k9.block j hl (fun e => by have h2 : w4.heap.size ≤ j := hj; have h3 : j = P := e; omega)) (fun j hj _ => by have h2 : w4.heap.size ≤ j := hj; omega)
      have hc9' := hc9.keep (W' := w9) (ok' := fun j => w.heap.size < j) (Nat.le_refl _) (fun j _ _ => rfl) (fun j hj _ => by have h2 : wd.heap.size ≤ j := hj; omega)
      have HZ9 := Lib.hid hz9
      clear hS0 hS1 hz9 hc8 hc9 hz8 cQ2
      go_wp2_with fail
      refine hK.out _ _ trivial (fun _ _ => ksix_cells HZ9.out) ?_
      clear hK K
      try simp only [Act.put, List.setIfInBounds_toArray, List.set_cons_zero, List.set_cons_succ]
      refine until_step (i := 5) (by kernel_rfl) rfl (fun K hK => ?_)
      go_simp
      refine hK.out _ _ trivial (fun h _ => absurd rfl h) ?_
      clear hK K
      try simp only [Act.put, List.setIfInBounds_toArray, List.set_cons_zero, List.set_cons_succ]
      refine until_step (i := 6) (by kernel_rfl) rfl (fun K hK => ?_)
      go_simp
      refine hK.out _ _ trivial (fun _ h => absurd h (by decide)) ?_
      clear hK K
      try simp only [Act.put, List.setIfInBounds_toArray, List.set_cons_zero, List.set_cons_succ]
      have hb10 := (Below.refl w9.heap.size w9).alloc (Nat.le_refl _) (.cells #[.int .i64 code, .string ⟨name.toArray⟩, .string ⟨text.toArray⟩, .int .i64 kn, .slice sa set.length sc, .slice kb keys.length kcc, .int .i64 code2, .string ⟨name2.toArray⟩, .string ⟨text2.toArray⟩, .int .i64 kn2, .slice sa2 set2.length sc2, .slice kb2 keys2.length kcc2] 38)
      have hz10 := World.heap_alloc_new w9 (.cells #[.int .i64 code, .string ⟨name.toArray⟩, .string ⟨text.toArray⟩, .int .i64 kn, .slice sa set.length sc, .slice kb keys.length kcc, .int .i64 code2, .string ⟨name2.toArray⟩, .string ⟨text2.toArray⟩, .int .i64 kn2, .slice sa2 set2.length sc2, .slice kb2 keys2.length kcc2] 38)
      have hs9 := K9.size
      have K10 := K9.under hb10
      have hcA := hc8'.keep (ok' := fun j => w.heap.size < j) hb10.size (fun j _ hl => hb10.block j hl) (fun j hj _ => hj)
      have hcB := hc9'.keep (ok' := fun j => w.heap.size < j) hb10.size (fun j _ hl => hb10.block j hl) (fun j hj _ => hj)
      generalize w9.alloc (.cells #[.int .i64 code, .string ⟨name.toArray⟩, .string ⟨text.toArray⟩, .int .i64 kn, .slice sa set.length sc, .slice kb keys.length kcc, .int .i64 code2, .string ⟨name2.toArray⟩, .string ⟨text2.toArray⟩, .int .i64 kn2, .slice sa2 set2.length sc2, .slice kb2 keys2.length kcc2] 38) = wA at hz10 K10 hcA hcB ⊢
      obtain ⟨r0, r1, r2, r3, r4, r5⟩ := ksix_cells K10.res
      have fz := Lib.frozen_of_heap K10.res
      refine until_step (i := 7) (by kernel_rfl) rfl (fun K hK => ?_)
      go_simp
      refine hK.out _ _ trivial (fun _ h => absurd h (by decide)) ?_
      clear hK K
      try simp only [Act.put, List.setIfInBounds_toArray, List.set_cons_zero, List.set_cons_succ]
      refine until_done (by kernel_rfl) ?_ _
      go_wp2_with fail
      refine bodyPost_ret (results_cell_row (P := Tryz.prog) rfl _ _ w.heap.size _ _ _ _ rfl (kset_six K10.res _ _ _ _ _ _) Tryz.underlying38 rfl key_size) rfl ?_
      exact K10.done hP (keyC_two hz10 hs9 (by decide) hcA hcB) HX.out
end Go.Proofs.YtgblgbhfgiajiaaGreatDoor
