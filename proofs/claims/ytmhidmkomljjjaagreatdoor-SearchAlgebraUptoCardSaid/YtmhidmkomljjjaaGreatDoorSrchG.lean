/- The walk over search's key: a list of words. No condition beyond those each names. -/
import Derived.Test.YtmhidmkomljjjaaGreatDoorSrchF
namespace Go.Proofs.YtmhidmkomljjjaaGreatDoor
open Go.RowKit Go.Shelf Go.Sort
set_option linter.unusedSimpArgs false

set_option maxRecDepth 100000 in
set_option maxHeartbeats 16000000 in
theorem key_list (d D : Nat) (hD : D ≤ 6) (w0 : World)
    (IH : ∀ (P n : Nat) (v : Value) (l : List Wd) (w : World), n ≤ 60 → StK w0 P n v l w → Calls Tryz.prog 12 #[.pointer (some ⟨P, 0, none⟩), .int .i64 ((D : Int) + 1)] w (KeyS w0 P (keysE (keysK (keyK d) l n)) w))
    (P n : Nat) (v : Value) (t : Wd) (l : List Wd) (w : World) (h : StK w0 P n v (t :: l) w) (hn : n + 1 ≤ 60) (hk : t.kind = 3) :
    Calls Tryz.prog 24 #[.pointer (some ⟨P, 0, none⟩), .int .i64 (D : Int)] w (KeyS w0 P (keyK (d + 1) (t :: l) n) w) := by
  have hr : keyK (d + 1) (t :: l) n = match keysK (keyK d) t.list (n + 1) with | .error e => .error e | .ok (k, n') => .ok (k, l, n') := by
    rw [keyK_cons, if_neg (by omega), if_pos hk]
    cases keysK (keyK d) t.list (n + 1) <;> rfl
  obtain ⟨R, hR⟩ : ∃ R, keyK (d + 1) (t :: l) n = R := ⟨_, rfl⟩
  rw [hR]
  have HR := Lib.hid (hr.symm.trans hR)
  obtain ⟨a, c, rfl, -, -⟩ := h.words.val
  obtain ⟨g, off, va, vc, rfl, -, hc1, hc2, hg, x0, x1, x2, -, hl1, hl2⟩ := h.words.cons
  rw [hk] at x0
  have hP := h.pars.lt
  have hB := h.low
  have hgP : g ≠ P := by omega
  have hK1 := keyB_at h
  have hlen : (t :: l).length = l.length + 1 := rfl
  obtain ⟨c0, c1⟩ := two_cells h.pars
  have f1 := Lib.frozen_of_heap h.pars 1
  have h6z : decide ((6 : Int) < (D : Int)) = false := decide_eq_false (by omega)
  have h60z : decide ((60 : Int) < (n : Int) + 1) = false := decide_eq_false (by omega)
  obtain ⟨w1, hw1⟩ : ∃ w1, keyB w P n = w1 := ⟨_, rfl⟩
  rw [hw1] at hK1
  have y0 : ∀ j, j < w0.heap.size → w1.heap[j]? = w.heap[j]? := fun j hj => hK1.kept.block j (by omega) (by omega)
  have d0 := (World.cell?_of_block (w := w) (a := ⟨g, off, none⟩) (y0 g hg)).trans x0
  have d2 := (World.cell?_of_block (w := w) (a := ⟨g, off + 2, none⟩) (y0 g hg)).trans x2
  have hl1 := hl1.keep y0
  have hl2 := hl2.keep y0
  have K1 := Lib.hid hK1
  have HW := Lib.hid hw1
  have HL1 := Lib.hid hl1
  have HL2 := Lib.hid hl2
  have HIH := Lib.hid IH
  clear h hK1 hw1 x0 x1 x2 y0 hr hR IH hk
  rw [hlen] at *
  go_enter Tryz.func24, Tryz.ntmps24
  go_upto_region 2 with fail
  rw [show (w.setCell ⟨P, 1, none⟩ (.int .i64 ((n : Int) + 1))).alloc (.cells #[.int .i64 0, .string ⟨#[]⟩, .string ⟨#[]⟩, .int .i64 0, .slice none 0 0, .slice none 0 0] 33) = w1 from HW.out]
  clear c0 c1 f1
  obtain ⟨c0, c1⟩ := two_cells K1.out.st.pars
  have f0 := Lib.frozen_of_heap K1.out.st.pars
  have fin : ∀ (v' : Value) (w2 : World), w2 = w1.setCell ⟨P, 0, none⟩ v' → ReadsK w1 w0.heap.size v' l → KeyW w0 w P (n + 1) v' l w2 := fun v' w2 e hr => by
    subst e
    have hk : Kept (fun k => k = P) w1 (w1.setCell ⟨P, 0, none⟩ v') := (Kept.refl _ _).setB _
    exact K1.out.next hP hk (K1.out.st.next hk (set2_0 K1.out.st.pars) (hr.kept hk hB K1.out.st.base.size))
  have hsz1 := K1.out.size
  by_cases hc : c = 1
  · subst hc
    have hl0 : l.length + 1 ≤ 1 := by omega
    go_upto_region 7 with fail
    have K2 := fin _ _ rfl (readsK_none (a := some ⟨g, off, none⟩) (c := 0) hl0 (by decide))
    have hL2 : ReadsK (w1.setCell ⟨P, 0, none⟩ (.slice (some ⟨g, off, none⟩) l.length 0)) w0.heap.size (.slice va t.list.length vc) t.list := HL1.out.keep fun j hj => Below.heap_setCell _ _ _ _ (show j ≠ P by omega)
    have hl00 : l.length = 0 := by omega
    rw [hl00] at K2 hL2
    generalize w1.setCell ⟨P, 0, none⟩ (.slice (some ⟨g, off, none⟩) 0 0) = w2 at K2 hL2 ⊢
    clear c0 c1 f0 fin
    obtain ⟨c0, c1⟩ := two_cells K2.st.pars
    have f1 := Lib.frozen_of_heap K2.st.pars 1
    have hz3 := World.heap_alloc_new w2 (.cells #[.slice va t.list.length vc, .int .i64 ((n + 1 : Nat) : Int)] 52)
    have hs3 := alloc_size w2 (.cells #[.slice va t.list.length vc, .int .i64 ((n + 1 : Nat) : Int)] 52)
    have hsz2 := K2.st.base.size
    have hsz3 := K2.size
    have hb3 := (Below.refl w2.heap.size w2).alloc (Nat.le_refl _) (.cells #[.slice va t.list.length vc, .int .i64 ((n + 1 : Nat) : Int)] 52)
    obtain ⟨w3, hw3⟩ : ∃ w3, w2.alloc (.cells #[.slice va t.list.length vc, .int .i64 ((n + 1 : Nat) : Int)] 52) = w3 := ⟨_, rfl⟩
    rw [hw3] at hz3 hs3 hb3
    have stQ : StK w0 w2.heap.size (n + 1) (.slice va t.list.length vc) t.list w3 := ⟨K2.st.base.trans (hb3.mono hsz2), hsz2, hz3, hL2.under (hb3.mono hsz2)⟩
    have cK := HIH.out w2.heap.size (n + 1) _ t.list w3 hn stQ
    have HW3 := Lib.hid hw3
    have HK2 := Lib.hid K2
    clear hw3 stQ HIH HL1 HL2 K1 HW K2
    unfold KeyS keysE at cK
    cases hq : keysK (keyK d) t.list (n + 1) with
    | error E =>
      rw [hq] at cK
      have HX : Hid (R = .error E) := Lib.hid (by rw [← HR.out, hq])
      clear HR hq
      go_upto_region 8 with fail
      rw [show w2.alloc (.cells #[.slice va t.list.length vc, .int .i64 ((n : Int) + 1)] 52) = w3 from HW3.out]
      go_wp2_with ((go_at_call 12; go_loud (((with_reducible refine cK.mono ?_); rintro e w4 h4; obtain ⟨rfl, hk4⟩ := h4))))
      have y4 : Below w2.heap.size w3 w4 := hk4.below (by omega) (fun k e => by have : k = w2.heap.size := e; omega)
      exact ⟨rfl, keyS_bad HX.out ⟨rfl, kept_of HK2.out.kept (hb3.trans y4)⟩⟩
    | ok x =>
      obtain ⟨k, n'⟩ := x
      rw [hq] at cK
      have HX : Hid (R = .ok (k, l, n')) := Lib.hid (by rw [← HR.out, hq])
      clear HR hq
      go_upto_region 8 with fail
      rw [show w2.alloc (.cells #[.slice va t.list.length vc, .int .i64 ((n : Int) + 1)] 52) = w3 from HW3.out]
      go_upto_region 9 with ((go_at_call 12; go_loud (((with_reducible refine cK.mono ?_); rintro e w4 h4; obtain ⟨vq, cs, rfl, hc4, st4, hk4⟩ := h4; obtain ⟨code, name, text, kn, set, keys, sa, kb, sc, kcc, rfl⟩ := hc4.six))))
      have hQ3 : w2.heap.size < w3.heap.size := by omega
      have hb4 : Below w2.heap.size w3 w4 := hk4.below (by omega) (fun k e => by have : k = w2.heap.size := e; omega)
      have hz5 := World.heap_alloc_new w4 (.cells #[.int .i64 code, .string ⟨name.toArray⟩, .string ⟨text.toArray⟩, .int .i64 kn, .slice sa set.length sc, .slice kb keys.length kcc] 33)
      have hb5 := (Below.refl w4.heap.size w4).alloc (Nat.le_refl _) (.cells #[.int .i64 code, .string ⟨name.toArray⟩, .string ⟨text.toArray⟩, .int .i64 kn, .slice sa set.length sc, .slice kb keys.length kcc] 33)
      have K5 := (HK2.out.under (hb3.trans hb4)).under hb5
      have q5 := st4.pars.below hb5
      have hs4 := hk4.size
      have hc5 := hc4.keep (ok' := fun j => w3.heap.size ≤ j) hb5.size (fun j _ hj => hb5.block j hj) (fun j hj _ => hj)
      generalize w4.alloc (.cells #[.int .i64 code, .string ⟨name.toArray⟩, .string ⟨text.toArray⟩, .int .i64 kn, .slice sa set.length sc, .slice kb keys.length kcc] 33) = w5 at hz5 K5 q5 hc5 ⊢
      obtain ⟨X, hX⟩ : ∃ X, w4.heap.size = X := ⟨_, rfl⟩
      obtain ⟨Q, hQ⟩ : ∃ Q, w2.heap.size = Q := ⟨_, rfl⟩
      rw [hX] at hz5 ⊢
      rw [hQ] at q5 ⊢
      have hXP : X ≠ P := by omega
      have hQP : Q ≠ P := by omega
      have hRX : w.heap.size ≠ X := by omega
      have hRP : w.heap.size ≠ P := by omega
      have hw35 : w.heap.size < w3.heap.size := by omega
      have hPw3 : P < w3.heap.size := by omega
      clear c0 c1 f1 hz3 hs3 hb3 HW3 HK2 hc4 st4 hk4 hb4 hb5 d0 d2 hsz1 hsz2 hsz3 hs4 hX hQ
      obtain ⟨c0, c1⟩ := two_cells K5.st.pars
      obtain ⟨e0, e1⟩ := two_cells q5
      have f1 := Lib.frozen_of_heap K5.st.pars 1
      go_upto_region 10 with fail
      have K6 := K5.count hP n'
      have hz6 := setCell_same (a := ⟨P, 1, none⟩) (u := .int .i64 (n' : Int)) hz5 hXP
      have hc6 : KeyC (w5.setCell ⟨P, 1, none⟩ (.int .i64 (n' : Int))) (fun j => w.heap.size < j) [.int .i64 code, .string ⟨name.toArray⟩, .string ⟨text.toArray⟩, .int .i64 kn, .slice sa set.length sc, .slice kb keys.length kcc] k := hc5.keep (by rw [set_size]; exact Nat.le_refl _) (fun j hj _ => Below.heap_setCell _ _ _ _ (show j ≠ P by have : w3.heap.size ≤ j := hj; omega)) (fun j hj _ => by have : w3.heap.size ≤ j := hj; omega)
      generalize w5.setCell ⟨P, 1, none⟩ (.int .i64 (n' : Int)) = w6 at K6 hz6 hc6 ⊢
      clear c0 c1 e0 e1 f1 K5 q5 hz5 hc5
      obtain ⟨z0, z1, z2, z3, z4, z5⟩ := ksix_cells hz6
      obtain ⟨r0, r1, r2, r3, r4, r5⟩ := ksix_cells K6.res
      have fz := Lib.frozen_of_heap K6.res
      go_wp2_with fail
      refine bodyPost_ret (results_cell_row (P := Tryz.prog) rfl _ _ w.heap.size _ _ _ _ rfl (kset_six K6.res _ _ _ _ _ _) Tryz.underlying33 rfl key_size) rfl ?_
      exact K6.done hP hc6 HX.out
  · have hcc : c - 1 ≤ 9223372036854775807 := by omega
    go_upto_region 7 with fail
    have K2 := fin _ _ rfl HL2.out
    have hL2 : ReadsK (w1.setCell ⟨P, 0, none⟩ (.slice (some ⟨g, off + 3, none⟩) l.length (c - 1))) w0.heap.size (.slice va t.list.length vc) t.list := HL1.out.keep fun j hj => Below.heap_setCell _ _ _ _ (show j ≠ P by omega)
    generalize w1.setCell ⟨P, 0, none⟩ (.slice (some ⟨g, off + 3, none⟩) l.length (c - 1)) = w2 at K2 hL2 ⊢
    clear c0 c1 f0 fin
    obtain ⟨c0, c1⟩ := two_cells K2.st.pars
    have f1 := Lib.frozen_of_heap K2.st.pars 1
    have hz3 := World.heap_alloc_new w2 (.cells #[.slice va t.list.length vc, .int .i64 ((n + 1 : Nat) : Int)] 52)
    have hs3 := alloc_size w2 (.cells #[.slice va t.list.length vc, .int .i64 ((n + 1 : Nat) : Int)] 52)
    have hsz2 := K2.st.base.size
    have hsz3 := K2.size
    have hb3 := (Below.refl w2.heap.size w2).alloc (Nat.le_refl _) (.cells #[.slice va t.list.length vc, .int .i64 ((n + 1 : Nat) : Int)] 52)
    obtain ⟨w3, hw3⟩ : ∃ w3, w2.alloc (.cells #[.slice va t.list.length vc, .int .i64 ((n + 1 : Nat) : Int)] 52) = w3 := ⟨_, rfl⟩
    rw [hw3] at hz3 hs3 hb3
    have stQ : StK w0 w2.heap.size (n + 1) (.slice va t.list.length vc) t.list w3 := ⟨K2.st.base.trans (hb3.mono hsz2), hsz2, hz3, hL2.under (hb3.mono hsz2)⟩
    have cK := HIH.out w2.heap.size (n + 1) _ t.list w3 hn stQ
    have HW3 := Lib.hid hw3
    have HK2 := Lib.hid K2
    clear hw3 stQ HIH HL1 HL2 K1 HW K2
    unfold KeyS keysE at cK
    cases hq : keysK (keyK d) t.list (n + 1) with
    | error E =>
      rw [hq] at cK
      have HX : Hid (R = .error E) := Lib.hid (by rw [← HR.out, hq])
      clear HR hq
      go_upto_region 8 with fail
      rw [show w2.alloc (.cells #[.slice va t.list.length vc, .int .i64 ((n : Int) + 1)] 52) = w3 from HW3.out]
      go_wp2_with ((go_at_call 12; go_loud (((with_reducible refine cK.mono ?_); rintro e w4 h4; obtain ⟨rfl, hk4⟩ := h4))))
      have y4 : Below w2.heap.size w3 w4 := hk4.below (by omega) (fun k e => by have : k = w2.heap.size := e; omega)
      exact ⟨rfl, keyS_bad HX.out ⟨rfl, kept_of HK2.out.kept (hb3.trans y4)⟩⟩
    | ok x =>
      obtain ⟨k, n'⟩ := x
      rw [hq] at cK
      have HX : Hid (R = .ok (k, l, n')) := Lib.hid (by rw [← HR.out, hq])
      clear HR hq
      go_upto_region 8 with fail
      rw [show w2.alloc (.cells #[.slice va t.list.length vc, .int .i64 ((n : Int) + 1)] 52) = w3 from HW3.out]
      go_upto_region 9 with ((go_at_call 12; go_loud (((with_reducible refine cK.mono ?_); rintro e w4 h4; obtain ⟨vq, cs, rfl, hc4, st4, hk4⟩ := h4; obtain ⟨code, name, text, kn, set, keys, sa, kb, sc, kcc, rfl⟩ := hc4.six))))
      have hQ3 : w2.heap.size < w3.heap.size := by omega
      have hb4 : Below w2.heap.size w3 w4 := hk4.below (by omega) (fun k e => by have : k = w2.heap.size := e; omega)
      have hz5 := World.heap_alloc_new w4 (.cells #[.int .i64 code, .string ⟨name.toArray⟩, .string ⟨text.toArray⟩, .int .i64 kn, .slice sa set.length sc, .slice kb keys.length kcc] 33)
      have hb5 := (Below.refl w4.heap.size w4).alloc (Nat.le_refl _) (.cells #[.int .i64 code, .string ⟨name.toArray⟩, .string ⟨text.toArray⟩, .int .i64 kn, .slice sa set.length sc, .slice kb keys.length kcc] 33)
      have K5 := (HK2.out.under (hb3.trans hb4)).under hb5
      have q5 := st4.pars.below hb5
      have hs4 := hk4.size
      have hc5 := hc4.keep (ok' := fun j => w3.heap.size ≤ j) hb5.size (fun j _ hj => hb5.block j hj) (fun j hj _ => hj)
      generalize w4.alloc (.cells #[.int .i64 code, .string ⟨name.toArray⟩, .string ⟨text.toArray⟩, .int .i64 kn, .slice sa set.length sc, .slice kb keys.length kcc] 33) = w5 at hz5 K5 q5 hc5 ⊢
      obtain ⟨X, hX⟩ : ∃ X, w4.heap.size = X := ⟨_, rfl⟩
      obtain ⟨Q, hQ⟩ : ∃ Q, w2.heap.size = Q := ⟨_, rfl⟩
      rw [hX] at hz5 ⊢
      rw [hQ] at q5 ⊢
      have hXP : X ≠ P := by omega
      have hQP : Q ≠ P := by omega
      have hRX : w.heap.size ≠ X := by omega
      have hRP : w.heap.size ≠ P := by omega
      have hw35 : w.heap.size < w3.heap.size := by omega
      have hPw3 : P < w3.heap.size := by omega
      clear c0 c1 f1 hz3 hs3 hb3 HW3 HK2 hc4 st4 hk4 hb4 hb5 d0 d2 hsz1 hsz2 hsz3 hs4 hX hQ
      obtain ⟨c0, c1⟩ := two_cells K5.st.pars
      obtain ⟨e0, e1⟩ := two_cells q5
      have f1 := Lib.frozen_of_heap K5.st.pars 1
      go_upto_region 10 with fail
      have K6 := K5.count hP n'
      have hz6 := setCell_same (a := ⟨P, 1, none⟩) (u := .int .i64 (n' : Int)) hz5 hXP
      have hc6 : KeyC (w5.setCell ⟨P, 1, none⟩ (.int .i64 (n' : Int))) (fun j => w.heap.size < j) [.int .i64 code, .string ⟨name.toArray⟩, .string ⟨text.toArray⟩, .int .i64 kn, .slice sa set.length sc, .slice kb keys.length kcc] k := hc5.keep (by rw [set_size]; exact Nat.le_refl _) (fun j hj _ => Below.heap_setCell _ _ _ _ (show j ≠ P by have : w3.heap.size ≤ j := hj; omega)) (fun j hj _ => by have : w3.heap.size ≤ j := hj; omega)
      generalize w5.setCell ⟨P, 1, none⟩ (.int .i64 (n' : Int)) = w6 at K6 hz6 hc6 ⊢
      clear c0 c1 e0 e1 f1 K5 q5 hz5 hc5
      obtain ⟨z0, z1, z2, z3, z4, z5⟩ := ksix_cells hz6
      obtain ⟨r0, r1, r2, r3, r4, r5⟩ := ksix_cells K6.res
      have fz := Lib.frozen_of_heap K6.res
      go_wp2_with fail
      refine bodyPost_ret (results_cell_row (P := Tryz.prog) rfl _ _ w.heap.size _ _ _ _ rfl (kset_six K6.res _ _ _ _ _ _) Tryz.underlying33 rfl key_size) rfl ?_
      exact K6.done hP hc6 HX.out
end Go.Proofs.YtmhidmkomljjjaaGreatDoor
