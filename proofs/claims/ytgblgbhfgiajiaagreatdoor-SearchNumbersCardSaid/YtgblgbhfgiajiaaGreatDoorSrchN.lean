/- The walk over search's key: a list of words. No condition beyond those each names. The walk over search's key, whatever the words: it brings what its plain function says. Conditions: flags.system, strconv's table of powers and its two errors, bytealg.MaxLen and the handle of error lie as the program's text lays them. The walk over search.Parse: it returns the key that the plain reader reads, or its error. Conditions: flags.system, strconv's table of powers and its two errors, bytealg.MaxLen and the handle of error lie as the program's text lays them. -/
import Derived.Test.YtgblgbhfgiajiaaGreatDoorSrchF
import Derived.Test.YtgblgbhfgiajiaaGreatDoorSrchL
import Derived.Test.YtgblgbhfgiajiaaGreatDoorSrchI
import Derived.Test.YtgblgbhfgiajiaaGreatDoorSrchJ
import Derived.Recover
import Derived.Deep.RegionHeld3
import Derived.WalkSpells
namespace Go.Proofs.YtgblgbhfgiajiaaGreatDoor
open Go.RowKit Go.Shelf Go.Sort
set_option linter.unusedSimpArgs false

set_option maxRecDepth 100000 in
set_option maxHeartbeats 16000000 in
theorem key_list (d D : Nat) (hD : D ≤ 6) (w0 : World)
    (IH : ∀ (P n : Nat) (v : Value) (l : List Wd) (w : World), n ≤ 60 → StK w0 P n v l w → Calls Tryz.prog 17 #[.pointer (some ⟨P, 0, none⟩), .int .i64 ((D : Int) + 1)] w (KeyS w0 P (keysE (keysK (keyK d) l n)) w))
    (P n : Nat) (v : Value) (t : Wd) (l : List Wd) (w : World) (h : StK w0 P n v (t :: l) w) (hn : n + 1 ≤ 60) (hk : t.kind = 3) :
    Calls Tryz.prog 36 #[.pointer (some ⟨P, 0, none⟩), .int .i64 (D : Int)] w (KeyS w0 P (keyK (d + 1) (t :: l) n) w) := by
  have hr : keyK (d + 1) (t :: l) n = match keysK (keyK d) t.list (n + 1) with | .error e => .error e | .ok (k, n') => .ok (k, l, n') := by
    rw [keyK_cons, if_neg (by omega), if_pos hk]
    cases keysK (keyK d) t.list (n + 1) <;> rfl
  obtain ⟨R, hR⟩ : ∃ R, keyK (d + 1) (t :: l) n = R := ⟨_, rfl⟩
  rw [hR]
  have HR := Lib.hid (hr.symm.trans hR)
  obtain ⟨a, c, rfl, -, -⟩ := h.words.val
  obtain ⟨g, off, va, vc, rfl, -, hc1, hc2, hg, x0, x1, x2, -, hl1, hl2⟩ := h.words.cons
  rw [hk] at x0
  have hP := h.pars.lt
  have hB := h.low
  have hgP : g ≠ P := by omega
  have hK1 := keyB_at h
  have hlen : (t :: l).length = l.length + 1 := rfl
  obtain ⟨c0, c1⟩ := two_cells h.pars
  have f1 := Lib.frozen_of_heap h.pars 1
  have h6z : decide ((6 : Int) < (D : Int)) = false := decide_eq_false (by omega)
  have h60z : decide ((60 : Int) < (n : Int) + 1) = false := decide_eq_false (by omega)
  obtain ⟨w1, hw1⟩ : ∃ w1, keyB w P n = w1 := ⟨_, rfl⟩
  rw [hw1] at hK1
  have y0 : ∀ j, j < w0.heap.size → w1.heap[j]? = w.heap[j]? := fun j hj => hK1.kept.block j (by omega) (by omega)
  have d0 := (World.cell?_of_block (w := w) (a := ⟨g, off, none⟩) (y0 g hg)).trans x0
  have d2 := (World.cell?_of_block (w := w) (a := ⟨g, off + 2, none⟩) (y0 g hg)).trans x2
  have hl1 := hl1.keep y0
  have hl2 := hl2.keep y0
  have K1 := Lib.hid hK1
  have HW := Lib.hid hw1
  have HL1 := Lib.hid hl1
  have HL2 := Lib.hid hl2
  have HIH := Lib.hid IH
  clear h hK1 hw1 x0 x1 x2 y0 hr hR IH hk
  rw [hlen] at *
  go_enter Tryz.func36, Tryz.ntmps36
  go_upto_region 2 with fail
  rw [show (w.setCell ⟨P, 1, none⟩ (.int .i64 ((n : Int) + 1))).alloc (.cells #[.int .i64 0, .string ⟨#[]⟩, .string ⟨#[]⟩, .int .i64 0, .slice none 0 0, .slice none 0 0] 38) = w1 from HW.out]
  clear c0 c1 f1
  obtain ⟨c0, c1⟩ := two_cells K1.out.st.pars
  have f0 := Lib.frozen_of_heap K1.out.st.pars
  have fin : ∀ (v' : Value) (w2 : World), w2 = w1.setCell ⟨P, 0, none⟩ v' → ReadsK w1 w0.heap.size v' l → KeyW w0 w P (n + 1) v' l w2 := fun v' w2 e hr => by
    subst e
    have hk : Kept (fun k => k = P) w1 (w1.setCell ⟨P, 0, none⟩ v') := (Kept.refl _ _).setB _
    exact K1.out.next hP hk (K1.out.st.next hk (set2_0 K1.out.st.pars) (hr.kept hk hB K1.out.st.base.size))
  have hsz1 := K1.out.size
  by_cases hc : c = 1
  · subst hc
    have hl0 : l.length + 1 ≤ 1 := by omega
    go_upto_region 7 with fail
    have K2 := fin _ _ rfl (readsK_none (a := some ⟨g, off, none⟩) (c := 0) hl0 (by decide))
    have hL2 : ReadsK (w1.setCell ⟨P, 0, none⟩ (.slice (some ⟨g, off, none⟩) l.length 0)) w0.heap.size (.slice va t.list.length vc) t.list := HL1.out.keep fun j hj => Below.heap_setCell _ _ _ _ (show j ≠ P by omega)
    have hl00 : l.length = 0 := by omega
    rw [hl00] at K2 hL2
    generalize w1.setCell ⟨P, 0, none⟩ (.slice (some ⟨g, off, none⟩) 0 0) = w2 at K2 hL2 ⊢
    clear c0 c1 f0 fin
    obtain ⟨c0, c1⟩ := two_cells K2.st.pars
    have f1 := Lib.frozen_of_heap K2.st.pars 1
    have hz3 := World.heap_alloc_new w2 (.cells #[.slice va t.list.length vc, .int .i64 ((n + 1 : Nat) : Int)] 59)
    have hs3 := alloc_size w2 (.cells #[.slice va t.list.length vc, .int .i64 ((n + 1 : Nat) : Int)] 59)
    have hsz2 := K2.st.base.size
    have hsz3 := K2.size
    have hb3 := (Below.refl w2.heap.size w2).alloc (Nat.le_refl _) (.cells #[.slice va t.list.length vc, .int .i64 ((n + 1 : Nat) : Int)] 59)
    obtain ⟨w3, hw3⟩ : ∃ w3, w2.alloc (.cells #[.slice va t.list.length vc, .int .i64 ((n + 1 : Nat) : Int)] 59) = w3 := ⟨_, rfl⟩
    rw [hw3] at hz3 hs3 hb3
    have stQ : StK w0 w2.heap.size (n + 1) (.slice va t.list.length vc) t.list w3 := ⟨K2.st.base.trans (hb3.mono hsz2), hsz2, hz3, hL2.under (hb3.mono hsz2)⟩
    have cK := HIH.out w2.heap.size (n + 1) _ t.list w3 hn stQ
    have HW3 := Lib.hid hw3
    have HK2 := Lib.hid K2
    clear hw3 stQ HIH HL1 HL2 K1 HW K2
    unfold KeyS keysE at cK
    cases hq : keysK (keyK d) t.list (n + 1) with
    | error E =>
      rw [hq] at cK
      have HX : Hid (R = .error E) := Lib.hid (by rw [← HR.out, hq])
      clear HR hq
      go_upto_region 8 with fail
      rw [show w2.alloc (.cells #[.slice va t.list.length vc, .int .i64 ((n : Int) + 1)] 59) = w3 from HW3.out]
      go_wp2_with ((go_at_call 17; go_loud (((with_reducible refine cK.mono ?_); rintro e w4 h4; obtain ⟨rfl, hk4⟩ := h4))))
      have y4 : Below w2.heap.size w3 w4 := hk4.below (by omega) (fun k e => by have : k = w2.heap.size := e; omega)
      exact ⟨rfl, keyS_bad HX.out ⟨rfl, kept_of HK2.out.kept (hb3.trans y4)⟩⟩
    | ok x =>
      obtain ⟨k, n'⟩ := x
      rw [hq] at cK
      have HX : Hid (R = .ok (k, l, n')) := Lib.hid (by rw [← HR.out, hq])
      clear HR hq
      go_upto_region 8 with fail
      rw [show w2.alloc (.cells #[.slice va t.list.length vc, .int .i64 ((n : Int) + 1)] 59) = w3 from HW3.out]
      go_upto_region 9 with ((go_at_call 17; go_loud (((with_reducible refine cK.mono ?_); rintro e w4 h4; obtain ⟨vq, cs, rfl, hc4, st4, hk4⟩ := h4; obtain ⟨code, name, text, kn, set, keys, sa, kb, sc, kcc, rfl⟩ := hc4.six))))
      have hQ3 : w2.heap.size < w3.heap.size := by omega
      have hb4 : Below w2.heap.size w3 w4 := hk4.below (by omega) (fun k e => by have : k = w2.heap.size := e; omega)
      have hz5 := World.heap_alloc_new w4 (.cells #[.int .i64 code, .string ⟨name.toArray⟩, .string ⟨text.toArray⟩, .int .i64 kn, .slice sa set.length sc, .slice kb keys.length kcc] 38)
      have hb5 := (Below.refl w4.heap.size w4).alloc (Nat.le_refl _) (.cells #[.int .i64 code, .string ⟨name.toArray⟩, .string ⟨text.toArray⟩, .int .i64 kn, .slice sa set.length sc, .slice kb keys.length kcc] 38)
      have K5 := (HK2.out.under (hb3.trans hb4)).under hb5
      have q5 := st4.pars.below hb5
      have hs4 := hk4.size
      have hc5 := hc4.keep (ok' := fun j => w3.heap.size ≤ j) hb5.size (fun j _ hj => hb5.block j hj) (fun j hj _ => hj)
      generalize w4.alloc (.cells #[.int .i64 code, .string ⟨name.toArray⟩, .string ⟨text.toArray⟩, .int .i64 kn, .slice sa set.length sc, .slice kb keys.length kcc] 38) = w5 at hz5 K5 q5 hc5 ⊢
      obtain ⟨X, hX⟩ : ∃ X, w4.heap.size = X := ⟨_, rfl⟩
      obtain ⟨Q, hQ⟩ : ∃ Q, w2.heap.size = Q := ⟨_, rfl⟩
      rw [hX] at hz5 ⊢
      rw [hQ] at q5 ⊢
      have hXP : X ≠ P := by omega
      have hQP : Q ≠ P := by omega
      have hRX : w.heap.size ≠ X := by omega
      have hRP : w.heap.size ≠ P := by omega
      have hw35 : w.heap.size < w3.heap.size := by omega
      have hPw3 : P < w3.heap.size := by omega
      clear c0 c1 f1 hz3 hs3 hb3 HW3 HK2 hc4 st4 hk4 hb4 hb5 d0 d2 hsz1 hsz2 hsz3 hs4 hX hQ
      obtain ⟨c0, c1⟩ := two_cells K5.st.pars
      obtain ⟨e0, e1⟩ := two_cells q5
      have f1 := Lib.frozen_of_heap K5.st.pars 1
      go_upto_region 10 with fail
      have K6 := K5.count hP n'
      have hz6 := setCell_same (a := ⟨P, 1, none⟩) (u := .int .i64 (n' : Int)) hz5 hXP
      have hc6 : KeyC (w5.setCell ⟨P, 1, none⟩ (.int .i64 (n' : Int))) (fun j => w.heap.size < j) [.int .i64 code, .string ⟨name.toArray⟩, .string ⟨text.toArray⟩, .int .i64 kn, .slice sa set.length sc, .slice kb keys.length kcc] k := hc5.keep (by rw [set_size]; exact Nat.le_refl _) (fun j hj _ => Below.heap_setCell _ _ _ _ (show j ≠ P by have : w3.heap.size ≤ j := hj; omega)) (fun j hj _ => by have : w3.heap.size ≤ j := hj; omega)
      generalize w5.setCell ⟨P, 1, none⟩ (.int .i64 (n' : Int)) = w6 at K6 hz6 hc6 ⊢
      clear c0 c1 e0 e1 f1 K5 q5 hz5 hc5
      obtain ⟨z0, z1, z2, z3, z4, z5⟩ := ksix_cells hz6
      obtain ⟨r0, r1, r2, r3, r4, r5⟩ := ksix_cells K6.res
      have fz := Lib.frozen_of_heap K6.res
      go_wp2_with fail
      refine bodyPost_ret (results_cell_row (P := Tryz.prog) rfl _ _ w.heap.size _ _ _ _ rfl (kset_six K6.res _ _ _ _ _ _) Tryz.underlying38 rfl key_size) rfl ?_
      exact K6.done hP hc6 HX.out
  · have hcc : c - 1 ≤ 9223372036854775807 := by omega
    go_upto_region 7 with fail
    have K2 := fin _ _ rfl HL2.out
    have hL2 : ReadsK (w1.setCell ⟨P, 0, none⟩ (.slice (some ⟨g, off + 3, none⟩) l.length (c - 1))) w0.heap.size (.slice va t.list.length vc) t.list := HL1.out.keep fun j hj => Below.heap_setCell _ _ _ _ (show j ≠ P by omega)
    generalize w1.setCell ⟨P, 0, none⟩ (.slice (some ⟨g, off + 3, none⟩) l.length (c - 1)) = w2 at K2 hL2 ⊢
    clear c0 c1 f0 fin
    obtain ⟨c0, c1⟩ := two_cells K2.st.pars
    have f1 := Lib.frozen_of_heap K2.st.pars 1
    have hz3 := World.heap_alloc_new w2 (.cells #[.slice va t.list.length vc, .int .i64 ((n + 1 : Nat) : Int)] 59)
    have hs3 := alloc_size w2 (.cells #[.slice va t.list.length vc, .int .i64 ((n + 1 : Nat) : Int)] 59)
    have hsz2 := K2.st.base.size
    have hsz3 := K2.size
    have hb3 := (Below.refl w2.heap.size w2).alloc (Nat.le_refl _) (.cells #[.slice va t.list.length vc, .int .i64 ((n + 1 : Nat) : Int)] 59)
    obtain ⟨w3, hw3⟩ : ∃ w3, w2.alloc (.cells #[.slice va t.list.length vc, .int .i64 ((n + 1 : Nat) : Int)] 59) = w3 := ⟨_, rfl⟩
    rw [hw3] at hz3 hs3 hb3
    have stQ : StK w0 w2.heap.size (n + 1) (.slice va t.list.length vc) t.list w3 := ⟨K2.st.base.trans (hb3.mono hsz2), hsz2, hz3, hL2.under (hb3.mono hsz2)⟩
    have cK := HIH.out w2.heap.size (n + 1) _ t.list w3 hn stQ
    have HW3 := Lib.hid hw3
    have HK2 := Lib.hid K2
    clear hw3 stQ HIH HL1 HL2 K1 HW K2
    unfold KeyS keysE at cK
    cases hq : keysK (keyK d) t.list (n + 1) with
    | error E =>
      rw [hq] at cK
      have HX : Hid (R = .error E) := Lib.hid (by rw [← HR.out, hq])
      clear HR hq
      go_upto_region 8 with fail
      rw [show w2.alloc (.cells #[.slice va t.list.length vc, .int .i64 ((n : Int) + 1)] 59) = w3 from HW3.out]
      go_wp2_with ((go_at_call 17; go_loud (((with_reducible refine cK.mono ?_); rintro e w4 h4; obtain ⟨rfl, hk4⟩ := h4))))
      have y4 : Below w2.heap.size w3 w4 := hk4.below (by omega) (fun k e => by have : k = w2.heap.size := e; omega)
      exact ⟨rfl, keyS_bad HX.out ⟨rfl, kept_of HK2.out.kept (hb3.trans y4)⟩⟩
    | ok x =>
      obtain ⟨k, n'⟩ := x
      rw [hq] at cK
      have HX : Hid (R = .ok (k, l, n')) := Lib.hid (by rw [← HR.out, hq])
      clear HR hq
      go_upto_region 8 with fail
      rw [show w2.alloc (.cells #[.slice va t.list.length vc, .int .i64 ((n : Int) + 1)] 59) = w3 from HW3.out]
      go_upto_region 9 with ((go_at_call 17; go_loud (((with_reducible refine cK.mono ?_); rintro e w4 h4; obtain ⟨vq, cs, rfl, hc4, st4, hk4⟩ := h4; obtain ⟨code, name, text, kn, set, keys, sa, kb, sc, kcc, rfl⟩ := hc4.six))))
      have hQ3 : w2.heap.size < w3.heap.size := by omega
      have hb4 : Below w2.heap.size w3 w4 := hk4.below (by omega) (fun k e => by have : k = w2.heap.size := e; omega)
      have hz5 := World.heap_alloc_new w4 (.cells #[.int .i64 code, .string ⟨name.toArray⟩, .string ⟨text.toArray⟩, .int .i64 kn, .slice sa set.length sc, .slice kb keys.length kcc] 38)
      have hb5 := (Below.refl w4.heap.size w4).alloc (Nat.le_refl _) (.cells #[.int .i64 code, .string ⟨name.toArray⟩, .string ⟨text.toArray⟩, .int .i64 kn, .slice sa set.length sc, .slice kb keys.length kcc] 38)
      have K5 := (HK2.out.under (hb3.trans hb4)).under hb5
      have q5 := st4.pars.below hb5
      have hs4 := hk4.size
      have hc5 := hc4.keep (ok' := fun j => w3.heap.size ≤ j) hb5.size (fun j _ hj => hb5.block j hj) (fun j hj _ => hj)
      generalize w4.alloc (.cells #[.int .i64 code, .string ⟨name.toArray⟩, .string ⟨text.toArray⟩, .int .i64 kn, .slice sa set.length sc, .slice kb keys.length kcc] 38) = w5 at hz5 K5 q5 hc5 ⊢
      obtain ⟨X, hX⟩ : ∃ X, w4.heap.size = X := ⟨_, rfl⟩
      obtain ⟨Q, hQ⟩ : ∃ Q, w2.heap.size = Q := ⟨_, rfl⟩
      rw [hX] at hz5 ⊢
      rw [hQ] at q5 ⊢
      have hXP : X ≠ P := by omega
      have hQP : Q ≠ P := by omega
      have hRX : w.heap.size ≠ X := by omega
      have hRP : w.heap.size ≠ P := by omega
      have hw35 : w.heap.size < w3.heap.size := by omega
      have hPw3 : P < w3.heap.size := by omega
      clear c0 c1 f1 hz3 hs3 hb3 HW3 HK2 hc4 st4 hk4 hb4 hb5 d0 d2 hsz1 hsz2 hsz3 hs4 hX hQ
      obtain ⟨c0, c1⟩ := two_cells K5.st.pars
      obtain ⟨e0, e1⟩ := two_cells q5
      have f1 := Lib.frozen_of_heap K5.st.pars 1
      go_upto_region 10 with fail
      have K6 := K5.count hP n'
      have hz6 := setCell_same (a := ⟨P, 1, none⟩) (u := .int .i64 (n' : Int)) hz5 hXP
      have hc6 : KeyC (w5.setCell ⟨P, 1, none⟩ (.int .i64 (n' : Int))) (fun j => w.heap.size < j) [.int .i64 code, .string ⟨name.toArray⟩, .string ⟨text.toArray⟩, .int .i64 kn, .slice sa set.length sc, .slice kb keys.length kcc] k := hc5.keep (by rw [set_size]; exact Nat.le_refl _) (fun j hj _ => Below.heap_setCell _ _ _ _ (show j ≠ P by have : w3.heap.size ≤ j := hj; omega)) (fun j hj _ => by have : w3.heap.size ≤ j := hj; omega)
      generalize w5.setCell ⟨P, 1, none⟩ (.int .i64 (n' : Int)) = w6 at K6 hz6 hc6 ⊢
      clear c0 c1 e0 e1 f1 K5 q5 hz5 hc5
      obtain ⟨z0, z1, z2, z3, z4, z5⟩ := ksix_cells hz6
      obtain ⟨r0, r1, r2, r3, r4, r5⟩ := ksix_cells K6.res
      have fz := Lib.frozen_of_heap K6.res
      go_wp2_with fail
      refine bodyPost_ret (results_cell_row (P := Tryz.prog) rfl _ _ w.heap.size _ _ _ _ rfl (kset_six K6.res _ _ _ _ _ _) Tryz.underlying38 rfl key_size) rfl ?_
      exact K6.done hP hc6 HX.out
end Go.Proofs.YtgblgbhfgiajiaaGreatDoor
namespace Go.Proofs.YtgblgbhfgiajiaaGreatDoor
open Go.RowKit Go.Shelf Go.Sort

theorem numsK_cases (s : List UInt8) : numsK s = 0 ∨ (0 < numsK s ∧ numsK s ≠ 13) := by
  unfold numsK
  split
  · exact Or.inr (by decide)
  split
  · exact Or.inr (by decide)
  split
  · exact Or.inr (by decide)
  split
  · exact Or.inr (by decide)
  split
  · exact Or.inr (by decide)
  · exact Or.inl rfl
theorem key_any (w0 : World) (hG : SrG w0) : ∀ (d D : Nat), D + d = 7 → ∀ (P n : Nat) (v : Value) (l : List Wd) (w : World), n ≤ 60 → StK w0 P n v l w → Calls Tryz.prog 36 #[.pointer (some ⟨P, 0, none⟩), .int .i64 (D : Int)] w (KeyS w0 P (keyK d l n) w) := by
  intro d
  induction d with
  | zero =>
    intro D hD P n v l w hn h
    rw [keyK_zero]
    exact key_limit D (by omega) w0 P n v l w h hn (Or.inl (by omega))
  | succ d ih =>
    intro D hD P n v l w hn h
    have IH : ∀ (P n : Nat) (v : Value) (l : List Wd) (w : World), n ≤ 60 → StK w0 P n v l w → Calls Tryz.prog 36 #[.pointer (some ⟨P, 0, none⟩), .int .i64 ((D : Int) + 1)] w (KeyS w0 P (keyK d l n) w) := fun P n v l w hn h => ih (D + 1) (by omega) P n v l w hn h
    by_cases h60 : 60 < n + 1
    · have e : keyK (d + 1) l n = .error 4 := by
        cases l with
        | nil => rw [keyK_nil, if_pos h60]
        | cons t l => rw [keyK_cons, if_pos h60]
      rw [e]
      exact key_limit D (by omega) w0 P n v l w h hn (Or.inr h60)
    · cases l with
      | nil =>
        rw [keyK_nil, if_neg h60]
        exact key_none D (by omega) w0 P n v w h (by omega)
      | cons t l =>
        by_cases hk : t.kind = 3
        · exact key_list d D (by omega) w0 (fun P n v l w hn h => keys_any d (D + 1) (by omega) w0 IH P n v l w hn h) P n v t l w h (by omega) hk
        · cases hs : sysK (greatL t.text) with
          | some x =>
            obtain ⟨nm, un⟩ := x
            cases un with
            | true => exact key_sys_true d D (by omega) w0 hG P n v t l w h (by omega) hk nm hs
            | false => exact key_sys_false d D (by omega) w0 hG P n v t l w h (by omega) hk nm hs
          | none =>
            rcases numsK_cases (greatL t.text) with h0 | ⟨h0, h13⟩
            · by_cases h1 : greatL t.text = [70, 82, 79, 77]
              · exact key_from d D (by omega) w0 hG P n v t l w h (by omega) hk h1
              by_cases h2 : greatL t.text = [84, 79]
              · exact key_to d D (by omega) w0 hG P n v t l w h (by omega) hk h2
              by_cases h3 : greatL t.text = [83, 85, 66, 74, 69, 67, 84]
              · exact key_subject d D (by omega) w0 hG P n v t l w h (by omega) hk h3
              by_cases h4 : greatL t.text = [67, 67]
              · exact key_cc d D (by omega) w0 hG P n v t l w h (by omega) hk h4
              by_cases h5 : greatL t.text = [65, 76, 76]
              · exact key_all d D (by omega) w0 hG P n v t l w h (by omega) hk h5
              by_cases h6 : greatL t.text = [75, 69, 89, 87, 79, 82, 68]
              · exact key_keyword d D (by omega) w0 hG P n v t l w h (by omega) hk h6
              by_cases h7 : greatL t.text = [85, 78, 75, 69, 89, 87, 79, 82, 68]
              · exact key_unkeyword d D (by omega) w0 hG P n v t l w h (by omega) hk h7
              by_cases h8 : greatL t.text = [72, 69, 65, 68, 69, 82]
              · exact key_header d D (by omega) w0 hG P n v t l w h (by omega) hk h8
              by_cases h9 : greatL t.text = [66, 79, 68, 89]
              · exact key_body d D (by omega) w0 hG P n v t l w h (by omega) hk h9
              by_cases h10 : greatL t.text = [84, 69, 88, 84]
              · exact key_text d D (by omega) w0 hG P n v t l w h (by omega) hk h10
              by_cases h11 : greatL t.text = [85, 73, 68]
              · exact key_uid d D (by omega) w0 hG P n v t l w h (by omega) hk h11
              by_cases h12 : greatL t.text = [78, 79, 84]
              · exact key_not d D (by omega) w0 hG IH P n v t l w h (by omega) hk h12
              by_cases h13 : greatL t.text = [79, 82]
              · exact key_or d D (by omega) w0 hG IH P n v t l w h (by omega) hk h13
              refine key_rest d D (by omega) w0 hG P n v t l w h (by omega) hk hs (by omega) h0 (fun u hu e => ?_)
              simp only [List.mem_cons, List.not_mem_nil, or_false] at hu
              rcases hu with rfl | rfl | rfl | rfl | rfl | rfl | rfl | rfl | rfl | rfl | rfl | rfl | rfl
              · exact h1 e
              · exact h2 e
              · exact h3 e
              · exact h4 e
              · exact h5 e
              · exact h6 e
              · exact h7 e
              · exact h8 e
              · exact h9 e
              · exact h10 e
              · exact h11 e
              · exact h12 e
              · exact h13 e
            · exact key_num d D (by omega) w0 hG P n v t l w h (by omega) hk hs h0 h13
theorem keys_all (w0 : World) (hG : SrG w0) (P n : Nat) (v : Value) (l : List Wd) (w : World) (hn : n ≤ 60) (h : StK w0 P n v l w) : Calls Tryz.prog 17 #[.pointer (some ⟨P, 0, none⟩), .int .i64 0] w (KeyS w0 P (keysE (keysK (keyK 7) l n)) w) :=
  keys_any 7 0 (by decide) w0 (fun P n v l w hn h => key_any w0 hG 7 0 rfl P n v l w hn h) P n v l w hn h
end Go.Proofs.YtgblgbhfgiajiaaGreatDoor
namespace Go.Proofs.YtgblgbhfgiajiaaGreatDoor
open Go.RowKit Go.Shelf Go.Sort
set_option linter.unusedSimpArgs false

theorem kwp_tmps {P : Program} {c : Code} {t t' : Array Value} {d : List Deferred} {w : World} {Q : Exit → Act → World → Prop} (e : t = t') (h : c.wp P Q { tmps := t', defers := d } w) : c.wp P Q { tmps := t, defers := d } w := e ▸ h
theorem kwp_hide {P : Program} {c : Code} {a : Act} {w : World} {Q : Exit → Act → World → Prop} (h : ∀ Q' : Exit → Act → World → Prop, (∀ e a' w', Q e a' w' → Q' e a' w') → c.wp P Q' a w) : c.wp P Q a w := h Q (fun _ _ _ h => h)
set_option maxRecDepth 100000 in
set_option maxHeartbeats 4000000 in
/-- what Parse defers, where nothing was thrown -/
theorem kcatch_idle (p q : Addr) (w : World) :
    CallsD Tryz.prog 16 #[.pointer (some p), .pointer (some q)] .returning w fun e u' w' => e = .returned (.tuple #[]) ∧ u' = .returning ∧ w' = w := by
  refine callsD_of_wpS Tryz.func16 rfl fun c₀ cs hu => ?_
  apply wpS_seq
  apply wpS_region
  simp [wpOpsS, go_sem, recoverD, hu, Tryz.ntmps16, Exit.thenS]
  apply wpS_seq
  apply wpS_region
  simp [wpOpsS, go_sem, Exit.thenS]
  refine wpS_cond (t := false) (by simp [Act.eval, Array.replicate]) ?_
  simp only [Bool.false_eq_true, if_false]
  refine wpS_of_wp (wp_skip ?_)
  cases c₀
  simp_all [bodyPostS, results, Tryz.results16]
theorem kresults_none {P : Program} {fn : Func} (h : fn.results = #[]) (tmps : Array Value) (w : World) : (results fn tmps).run P w = .ok (.tuple #[]) w := by
  simp [results, h, go_sem]

theorem six_kept' {S : Nat → Prop} {w W : World} (h : Kept S w W) (U : Nat) (hU : S U) (x0 x1 x2 x3 x4 x5 : Value) : Kept S w ((((((W.setCell ⟨U, 0, none⟩ x0).setCell ⟨U, 1, none⟩ x1).setCell ⟨U, 2, none⟩ x2).setCell ⟨U, 3, none⟩ x3).setCell ⟨U, 4, none⟩ x4).setCell ⟨U, 5, none⟩ x5) :=
  (((((h.set (p := ⟨U, 0, none⟩) (fun _ => hU) _).set (p := ⟨U, 1, none⟩) (fun _ => hU) _).set (p := ⟨U, 2, none⟩) (fun _ => hU) _).set (p := ⟨U, 3, none⟩) (fun _ => hU) _).set (p := ⟨U, 4, none⟩) (fun _ => hU) _).set (p := ⟨U, 5, none⟩) (fun _ => hU) _
set_option maxRecDepth 100000 in
set_option maxHeartbeats 8000000 in
/-- what Parse defers, where an error was thrown -/
theorem kcatch_bad (C E : Nat) (n : Int) (x0 x1 x2 x3 x4 x5 x6 : Value) (older : List PanicEntry) (w : World) (hC : w.heap[C]? = some (.cells #[x0, x1, x2, x3, x4, x5] 38 (0, 0))) (hE : w.heap[E]? = some (.cells #[x6] 29 (0, 0))) :
    CallsD Tryz.prog 16 #[.pointer (some ⟨C, 0, none⟩), .pointer (some ⟨E, 0, none⟩)] (.panicking ({ v := .iface 55 (.agg #[.int .i64 n]), recovered := false } :: older)) w fun e u' w' =>
      e = .returned (.tuple #[]) ∧ u' = .panicking ({ v := .iface 55 (.agg #[.int .i64 n]), recovered := true } :: older) ∧ Kept (fun k => k = C ∨ k = E) w w' ∧ w'.heap[C]? = some (.cells zero6 38 (0, 0)) ∧ w'.heap[E]? = some (.cells #[.iface 49 (.int .i64 n)] 29 (0, 0)) := by
  obtain ⟨c0, c1, c2, c3, c4, c5⟩ := ksix_cells hC
  have e0 : w.cell? ⟨E, 0, none⟩ = some x6 := by rw [Lib.cell_of_heap hE]; rfl
  have fC := Lib.frozen_of_heap hC
  have fE := Lib.frozen_of_heap hE 0
  have ta : ∀ W : World, (Instr.typeAssert (.iface 55 (.agg #[.int .i64 n])) 20 55 true).run Tryz.prog W = .ok (.tuple #[.agg #[.int .i64 n], .bool true]) W := fun W => by kernel_rfl
  refine callsD_of_wpS Tryz.func16 rfl fun c₀ cs hu => ?_
  apply wpS_seq
  apply wpS_region
  simp [wpOpsS, go_sem, recoverD, hu, Tryz.ntmps16, Exit.thenS]
  refine wpS_of_wp ?_
  refine kwp_hide fun Q hQ => ?_
  refine kwp_tmps (t' := #[.pointer (some ⟨C, 0, none⟩), .pointer (some ⟨E, 0, none⟩), .iface 55 (.agg #[.int .i64 n]), undef, undef, .iface 55 (.agg #[.int .i64 n]), undef, undef, undef, undef, undef, undef, undef, undef, undef, undef, undef, undef, undef, undef]) (by kernel_rfl) ?_
  have HQ := Lib.hid hQ
  clear hQ hu
  go_upto_region 5 with fail
  have hC1 := alloc_same (x := .cells #[.int .i64 n] 55) hC
  have hE1 := alloc_same (x := .cells #[.int .i64 n] 55) hE
  have hX1 := World.heap_alloc_new w (.cells #[.int .i64 n] 55)
  have hK1 : Kept (fun k => k = C ∨ k = E) w (w.alloc (.cells #[.int .i64 n] 55)) := (Kept.refl _ _).alloc _
  have hCX : C ≠ w.heap.size := Nat.ne_of_lt (Array.getElem?_eq_some_iff.1 hC).1
  have hEX : E ≠ w.heap.size := Nat.ne_of_lt (Array.getElem?_eq_some_iff.1 hE).1
  have hCE : C ≠ E := by
    rintro rfl
    rw [hC] at hE
    cases hE
  generalize w.alloc (.cells #[.int .i64 n] 55) = w1 at hC1 hE1 hX1 hK1 ⊢
  generalize w.heap.size = X at hX1 hCX hEX ⊢
  clear c0 c1 c2 c3 c4 c5 e0 fC fE ta
  obtain ⟨c0, c1, c2, c3, c4, c5⟩ := ksix_cells hC1
  have e0 : w1.cell? ⟨E, 0, none⟩ = some x6 := by rw [Lib.cell_of_heap hE1]; rfl
  have d0 : w1.cell? ⟨X, 0, none⟩ = some (.int .i64 n) := by rw [Lib.cell_of_heap hX1]; rfl
  have fC := Lib.frozen_of_heap hC1
  have fE := Lib.frozen_of_heap hE1 0
  have hXC := Ne.symm hCX
  have hXE := Ne.symm hEX
  have hEC := Ne.symm hCE
  go_region_held3 (fun W => W.cell? ⟨X, 0, none⟩ = some (.int .i64 n)) (go_keep) (fail)
  all_goals
    have kF := ((six_kept' hK1 C (Or.inl rfl) (.int .i64 0) (.string ⟨#[]⟩) (.string ⟨#[]⟩) (.int .i64 0) (.slice none 0 0) (.slice none 0 0))).set (p := ⟨E, 0, none⟩) (fun _ => Or.inr rfl) (.iface 49 (.int .i64 n))
    have hC2 := kset_six hC1 (.int .i64 0) (.string ⟨#[]⟩) (.string ⟨#[]⟩) (.int .i64 0) (.slice none 0 0) (.slice none 0 0)
    have hC3 := setCell_same (a := ⟨E, 0, none⟩) (u := .iface 49 (.int .i64 n)) hC2 hCE
    have hE2 := (ksix_heap w1 (U := C) (.int .i64 0) (.string ⟨#[]⟩) (.string ⟨#[]⟩) (.int .i64 0) (.slice none 0 0) (.slice none 0 0) E hEC).trans hE1
    have hE3 := setCell_one (u := .iface 49 (.int .i64 n)) hE2
    clear hC2 hE2
    generalize ((((((w1.setCell ⟨C, 0, none⟩ (.int .i64 0)).setCell ⟨C, 1, none⟩ (.string ⟨#[]⟩)).setCell ⟨C, 2, none⟩ (.string ⟨#[]⟩)).setCell ⟨C, 3, none⟩ (.int .i64 0)).setCell ⟨C, 4, none⟩ (.slice none 0 0)).setCell ⟨C, 5, none⟩ (.slice none 0 0)).setCell ⟨E, 0, none⟩ (.iface 49 (.int .i64 n)) = w9 at *
    have kG := kF.trans (kept_below (Below.refl _ w9).drew)
    refine HQ.out _ _ _ ?_
    exact ⟨rfl, _, rfl, _, kresults_none rfl _ _, rfl, rfl, kG, hC3, hE3⟩
theorem kresults_two {P : Program} {fn : Func} {p q : Tmp} {ty u : TypeId} (h : fn.results = #[.cell p ty, .cell q u]) (tmps : Array Value) (w : World) (g k : Nat) (T : TypeId) (cs : Array Value) (fr : Nat × Nat) (d : TypeDesc) (x : Value)
    (hp : tmps.getD p undef = .pointer (some ⟨g, 0, none⟩)) (hg : w.heap[g]? = some (.cells cs T fr))
    (hu : P.underlying ty = some d) (hd : (match d with | .struct _ | .array _ _ => true | _ => false) = true) (hi : (P.info? ty).map (·.size) = some cs.size)
    (hq : tmps.getD q undef = .pointer (some ⟨k, 0, none⟩)) (hx : (loadVar u ⟨k, 0, none⟩).run P w = .ok x w) :
    (results fn tmps).run P w = .ok (.tuple #[.agg cs, x]) w := by
  have hp' : tmps[p]?.getD undef = .pointer (some ⟨g, 0, none⟩) := by simpa using hp
  have hq' : tmps[q]?.getD undef = .pointer (some ⟨k, 0, none⟩) := by simpa using hq
  simp [results, h, hp', hq', asAddr, run_loadVar_row w g T ty cs fr d hg hu hd hi, hx]
theorem kload_err (w : World) (E : Nat) (x : Value) (h : w.cell? ⟨E, 0, none⟩ = some x) : (loadVar 29 ⟨E, 0, none⟩).run Tryz.prog w = .ok x w := by
  simp [go_sem, h]
/-- what Parse brings -/
def ParsedK (l : List Wd) (w : World) (e : Ending) (w' : World) : Prop := match parseK l with
  | .error E => e = .returned (.tuple #[.agg zero6, .iface 49 (.int .i64 (E : Int))]) ∧ Below w.heap.size w w'
  | .ok k => ∃ cs, e = .returned (.tuple #[.agg cs.toArray, .nilIface]) ∧ KeyC w' (fun j => w.heap.size ≤ j) cs k ∧ Below w.heap.size w w'
/-- at the door, an error having been thrown -/
theorem kdoor_bad {tmps : Array Value} {l : List Wd} {w w4 : World} {C E : Nat} {x0 x1 x2 x3 x4 x5 x6 : Value} (h2 : tmps.getD 2 undef = .pointer (some ⟨C, 0, none⟩)) (h3 : tmps.getD 3 undef = .pointer (some ⟨C + 1, 0, none⟩)) (hpf : parseK l = .error E) (hC : w4.heap[C]? = some (.cells #[x0, x1, x2, x3, x4, x5] 38 (0, 0))) (hE : w4.heap[C + 1]? = some (.cells #[x6] 29 (0, 0)))
    (hlow : Below w.heap.size w w4) (hCw : w.heap.size ≤ C) :
    bodyPostD Tryz.prog Tryz.f9 (ParsedK l w) (Exit.panic [{ v := .iface 55 (.agg #[.int .i64 (E : Int)]), recovered := false }]) { tmps := tmps, defers := [{ target := .fn (.func 16) #[.pointer (some ⟨C, 0, none⟩), .pointer (some ⟨C + 1, 0, none⟩)], args := #[] }] } w4 := by
  show Leaves _ _ _ _ _ _ _
  refine leaves_cons (f := 16) (args := #[.pointer (some ⟨C, 0, none⟩), .pointer (some ⟨C + 1, 0, none⟩)]) (by simp) (by simp [go_sem]) ?_
  refine (kcatch_bad C (C + 1) (E : Int) x0 x1 x2 x3 x4 x5 x6 [] w4 hC hE).mono ?_
  rintro e u' w5 ⟨rfl, rfl, hk, hC5, hE5⟩
  show Leaves _ _ _ _ [] .returning _
  refine ⟨_, kresults_two rfl tmps w5 C (C + 1) _ _ _ _ _ h2 hC5 Tryz.underlying38 rfl key_size h3 (kload_err w5 (C + 1) _ (by rw [Lib.cell_of_heap hE5]; rfl)), ?_⟩
  unfold ParsedK
  rw [hpf]
  exact ⟨rfl, hlow.trans (hk.below hlow.size (fun k h => by rcases h with rfl | rfl <;> omega))⟩
/-- at the door, a key having been read -/
theorem kdoor_good {tmps : Array Value} {l : List Wd} {w w4 : World} {C : Nat} {a b c d e f : Value} {k : KeyP} (h2 : tmps.getD 2 undef = .pointer (some ⟨C, 0, none⟩)) (h3 : tmps.getD 3 undef = .pointer (some ⟨C + 1, 0, none⟩)) (hpf : parseK l = .ok k) (hC : w4.heap[C]? = some (.cells #[a, b, c, d, e, f] 38 (0, 0))) (hE : w4.heap[C + 1]? = some (.cells #[.nilIface] 29 (0, 0)))
    (hk : KeyC w4 (fun j => w.heap.size ≤ j) [a, b, c, d, e, f] k) (hlow : Below w.heap.size w w4) :
    bodyPostD Tryz.prog Tryz.f9 (ParsedK l w) Exit.ret { tmps := tmps, defers := [{ target := .fn (.func 16) #[.pointer (some ⟨C, 0, none⟩), .pointer (some ⟨C + 1, 0, none⟩)], args := #[] }] } w4 := by
  show Leaves _ _ _ _ _ _ _
  refine leaves_cons (f := 16) (args := #[.pointer (some ⟨C, 0, none⟩), .pointer (some ⟨C + 1, 0, none⟩)]) (by simp) (by simp [go_sem]) ?_
  refine (kcatch_idle ⟨C, 0, none⟩ ⟨C + 1, 0, none⟩ w4).mono ?_
  rintro e' u' w5 ⟨rfl, rfl, rfl⟩
  show Leaves _ _ _ _ [] .returning _
  refine ⟨_, kresults_two rfl tmps w5 C (C + 1) _ _ _ _ _ h2 hC Tryz.underlying38 rfl key_size h3 (kload_err w5 (C + 1) _ (by rw [Lib.cell_of_heap hE]; rfl)), ?_⟩
  unfold ParsedK
  rw [hpf]
  exact ⟨[a, b, c, d, e, f], rfl, hk, hlow⟩
theorem kcell_one {w : World} {U : Nat} {a : Value} {t : TypeId} {fz : Nat × Nat} (h : w.heap[U]? = some (.cells #[a] t fz)) : w.cell? ⟨U, 0, none⟩ = some a := by rw [Lib.cell_of_heap h]; rfl
/-- the world in which Parse begins its work -/
abbrev parseW (w : World) (v : Value) : World := ((w.alloc (.cells zero6 38)).alloc (.cells #[.nilIface] 29)).alloc (.cells #[v, .int .i64 0] 59)
theorem parseW_at {w : World} {v : Value} {l : List Wd} (h : ReadsK w w.heap.size v l) : StK w (w.heap.size + 1 + 1) 0 v l (parseW w v) ∧ (parseW w v).heap[w.heap.size]? = some (.cells zero6 38 (0, 0)) ∧ (parseW w v).heap[w.heap.size + 1]? = some (.cells #[.nilIface] 29 (0, 0)) ∧ (parseW w v).heap.size = w.heap.size + 1 + 1 + 1 := by
  have h1 := World.heap_alloc_new w (.cells zero6 38)
  have s1 := alloc_size w (.cells zero6 38)
  have h2 := World.heap_alloc_new (w.alloc (.cells zero6 38)) (.cells #[.nilIface] 29)
  have s2 := alloc_size (w.alloc (.cells zero6 38)) (.cells #[.nilIface] 29)
  have h3 := World.heap_alloc_new ((w.alloc (.cells zero6 38)).alloc (.cells #[.nilIface] 29)) (.cells #[v, .int .i64 0] 59)
  have s3 := alloc_size ((w.alloc (.cells zero6 38)).alloc (.cells #[.nilIface] 29)) (.cells #[v, .int .i64 0] 59)
  rw [s2, s1] at h3 s3
  rw [s1] at h2
  have hb : Below w.heap.size w (parseW w v) := (((Below.refl _ w).alloc (Nat.le_refl _) _).alloc (by rw [s1]; exact Nat.le_succ _) _).alloc (by rw [s2, s1]; omega) _
  exact ⟨⟨hb, by omega, h3, h.under hb⟩, alloc_same (alloc_same h1), alloc_same h2, s3⟩
set_option maxRecDepth 100000 in
set_option maxHeartbeats 16000000 in
theorem parseK_any (v : Value) (l : List Wd) (w : World) (h : ReadsK w w.heap.size v l) (hG : SrG w) : Calls Tryz.prog 9 #[v] w (ParsedK l w) := by
  obtain ⟨a, c, rfl, -, -⟩ := h.val
  obtain ⟨hst, hC, hE, hsz⟩ := parseW_at h
  have cK := keys_all w hG (w.heap.size + 1 + 1) 0 _ l (parseW w (.slice a l.length c)) (by decide) hst
  have HST := Lib.hid hst
  have HC := Lib.hid hC
  have HE := Lib.hid hE
  have HSZ := Lib.hid hsz
  have hmf : ∀ (fn : Fn) (first cap : Array Value) (w : World), (Instr.makeFunc fn first cap).run Tryz.prog w = .ok (.func fn first cap) w := fun _ _ _ _ => rfl
  have hp : keysE (keysK (keyK 7) l 0) = match parseK l with | .error e => .error e | .ok k => .ok (k, [], match keysK (keyK 7) l 0 with | .ok (_, n) => n | .error _ => 0) := by
    unfold parseK
    cases keysK (keyK 7) l 0 with
    | error e => rfl
    | ok x => rfl
  rw [hp] at cK
  generalize (match keysK (keyK 7) l 0 with | .ok (_, n) => n | .error _ => 0) = N at cK
  clear hst hC hE hsz hG h hp
  unfold KeyS at cK
  cases hpk : parseK l with
  | error E =>
    rw [hpk] at cK
    dsimp only at cK
    have HPF := Lib.hid hpk
    clear hpk
    go_enter_defers Tryz.func9, Tryz.ntmps9
    go_wp2_with ((go_at_call 17; go_loud (((with_reducible refine cK.mono ?_); rintro e w1 h1; obtain ⟨rfl, hk1⟩ := h1))))
    have c1 := hk1.obj HC.out (by omega)
    have c2 := hk1.obj HE.out (by omega)
    have hb1 : Below w.heap.size w w1 := HST.out.base.trans (hk1.below HST.out.base.size (fun k e => by have : k = w.heap.size + 1 + 1 := e; omega))
    exact kdoor_bad rfl rfl HPF.out c1 c2 hb1 (Nat.le_refl _)
  | ok k =>
    rw [hpk] at cK
    dsimp only at cK
    have HPF := Lib.hid hpk
    clear hpk
    go_enter_defers Tryz.func9, Tryz.ntmps9
    go_wp2_with ((go_at_call 17; go_loud (((with_reducible refine cK.mono ?_); rintro e w1 h1; obtain ⟨v1, cs, rfl, hc1, st1, hk1⟩ := h1; obtain ⟨code, name, text, kn, set, keys, sa, kb, sc, kcc, rfl⟩ := hc1.six; have hz := hk1.obj HC.out (show ¬ w.heap.size = w.heap.size + 1 + 1 by omega); obtain ⟨r0, r1, r2, r3, r4, r5⟩ := ksix_cells hz; have fz := Lib.frozen_of_heap hz; have hz2 := hk1.obj HE.out (show ¬ w.heap.size + 1 = w.heap.size + 1 + 1 by omega); have q0 := kcell_one hz2; have fe := Lib.frozen_of_heap hz2 0))))
    have hd1 : w.heap.size + 1 ≠ w.heap.size := by omega
    have hszp : (parseW w (.slice a l.length c)).heap.size = w.heap.size + 1 + 1 + 1 := HSZ.out
    have hb1 : Below w.heap.size w w1 := HST.out.base.trans (hk1.below HST.out.base.size (fun k e => by have : k = w.heap.size + 1 + 1 := e; omega))
    have k2 := (six_kept' (S := fun j => j = w.heap.size ∨ j = w.heap.size + 1) (Kept.refl _ w1) w.heap.size (Or.inl rfl) (.int .i64 code) (.string ⟨name.toArray⟩) (.string ⟨text.toArray⟩) (.int .i64 kn) (.slice sa set.length sc) (.slice kb keys.length kcc)).set (p := ⟨w.heap.size + 1, 0, none⟩) (fun _ => Or.inr rfl) .nilIface
    have z2 := setCell_same (a := ⟨w.heap.size + 1, 0, none⟩) (u := .nilIface) (kset_six hz (.int .i64 code) (.string ⟨name.toArray⟩) (.string ⟨text.toArray⟩) (.int .i64 kn) (.slice sa set.length sc) (.slice kb keys.length kcc)) (Ne.symm hd1)
    have z3 := setCell_one (u := .nilIface) ((ksix_heap w1 (U := w.heap.size) (.int .i64 code) (.string ⟨name.toArray⟩) (.string ⟨text.toArray⟩) (.int .i64 kn) (.slice sa set.length sc) (.slice kb keys.length kcc) (w.heap.size + 1) hd1).trans hz2)
    clear r0 r1 r2 r3 r4 r5 fz q0 fe
    generalize ((((((w1.setCell ⟨w.heap.size, 0, none⟩ (.int .i64 code)).setCell ⟨w.heap.size, 1, none⟩ (.string ⟨name.toArray⟩)).setCell ⟨w.heap.size, 2, none⟩ (.string ⟨text.toArray⟩)).setCell ⟨w.heap.size, 3, none⟩ (.int .i64 kn)).setCell ⟨w.heap.size, 4, none⟩ (.slice sa set.length sc)).setCell ⟨w.heap.size, 5, none⟩ (.slice kb keys.length kcc)).setCell ⟨w.heap.size + 1, 0, none⟩ .nilIface = w2 at k2 z2 z3 ⊢
    have hb2 : Below w.heap.size w w2 := hb1.trans (k2.below hb1.size (fun k e => by rcases e with e | e <;> omega))
    have hc2 := hc1.keep (ok' := fun j => w.heap.size ≤ j) k2.size (fun j hj hl => k2.block j hl (fun e => by have h2 : (parseW w (.slice a l.length c)).heap.size ≤ j := hj; rcases e with e | e <;> omega)) (fun j hj _ => by have h2 : (parseW w (.slice a l.length c)).heap.size ≤ j := hj; omega)
    exact kdoor_good rfl rfl HPF.out z2 z3 hc2 hb2
end Go.Proofs.YtgblgbhfgiajiaaGreatDoor
