/- The walks over a box's Append and Flag, whatever comes of it, and over the statements' post. Condition: flags.system lies as the program's text lays it. -/
import Derived.Test.YteabnpahhkicaaaDoorBoxK
namespace Go.Proofs.YteabnpahhkicaaaDoor
open Go.RowKit Go.Shelf Go.Sort

theorem app_any (N B : Nat) (b : BoxP) (l : List (List UInt8)) (fv : Value) (day : Int) (text : List UInt8) (w : World) (hb : BoxS N w B b) (hN : N ≤ B) (hr : rightB b = true) (hf : SRow w fv l) (hl : Short l) (ht : text.length ≤ 1000000) (hG : FlagG w) :
    Calls Tryd.prog 13 #[.pointer (some ⟨B, 0, none⟩), fv, .int .i64 day, .string ⟨text.toArray⟩] w fun e w' => ∃ r : Int, e = .returned (.tuple #[.int .i64 r, errV (errO (appB b l day text).1)]) ∧ BoxS N w' B (appB b l day text).2 ∧ Kept (fun k => k = B) w w' := by
  have hnx : 0 ≤ b.next := by
    unfold rightB numB at hr
    simp only [Bool.and_eq_true, decide_eq_true_eq] at hr
    omega
  rcases app_stays b l day text with ⟨n, e1, e2⟩ | ⟨⟨n, e1⟩, _⟩
  · refine (app_bad B b l fv day text n w hb.at hf hl ht hG e1 (by have := right_len hr; omega)).mono ?_
    rintro e w' ⟨rfl, h⟩
    rw [e1, e2]
    exact ⟨0, rfl, hb.below h, kept_below h⟩
  · refine (app_good N B b l fv day text n w hb hN hf hl hG e1 hnx).mono ?_
    rintro e w' ⟨rfl, h1, h2⟩
    rw [e1]
    exact ⟨n, rfl, h1, h2⟩
theorem flag_any (N B : Nat) (b : BoxP) (uid what : Int) (l : List (List UInt8)) (fv : Value) (w : World) (hb : BoxS N w B b) (hN : N ≤ B) (hr : rightB b = true) (hf : SRow w fv l) (hl : Short l) (hG : FlagG w) (hu0 : -9223372036854775808 ≤ uid) (hu1 : uid ≤ 9223372036854775807) (hw : what = 0 ∨ what = 1 ∨ what = 2) :
    Calls Tryd.prog 14 #[.pointer (some ⟨B, 0, none⟩), .int .i64 uid, .int .i64 what, fv] w fun e w' => e = .returned (errV (flagB b uid what l).1) ∧ BoxS N w' B (flagB b uid what l).2 ∧ Kept (fun k => k = B) w w' := by
  cases hk : findB b.ls uid with
  | none =>
    have e : flagB b uid what l = (some 7, b) := by unfold flagB; rw [hk]
    rw [e]
    refine (flag_early N B b uid what l fv 7 w hb hr hf hl hG hu0 hu1 (Or.inl ⟨hk, rfl⟩)).mono ?_
    rintro e w' ⟨rfl, h⟩
    exact ⟨rfl, hb.below h, kept_below h⟩
  | some k =>
    cases hs : setF l with
    | inl n =>
      have e : flagB b uid what l = (some n, b) := by unfold flagB; rw [hk, hs]
      rw [e]
      refine (flag_early N B b uid what l fv n w hb hr hf hl hG hu0 hu1 (Or.inr ⟨by rw [hk]; rfl, hs⟩)).mono ?_
      rintro e w' ⟨rfl, h⟩
      exact ⟨rfl, hb.below h, kept_below h⟩
    | inr f =>
      obtain ⟨x, hx, _⟩ := findB_some hk
      obtain ⟨g, hg, hd⟩ : ∃ g, doFl what x.flags f = some g ∧ (what = 0 ∧ g = f ∨ what = 1 ∧ g = canonF (x.flags ++ f) ∨ what = 2 ∧ g = notF x.flags f) := by
        unfold doFl
        rcases hw with rfl | rfl | rfl
        · exact ⟨f, by simp, Or.inl ⟨rfl, rfl⟩⟩
        · exact ⟨_, by simp, Or.inr (Or.inl ⟨rfl, rfl⟩)⟩
        · exact ⟨_, by simp, Or.inr (Or.inr ⟨rfl, rfl⟩)⟩
      have e : flagB b uid what l = if 12 < g.length then (some 4, b) else (none, { b with ls := setFl b.ls k g }) := by
        unfold flagB
        simp only [hk, hs, hx, Option.map_some, Option.getD_some, hg]
      rw [e]
      refine (flag_late N B b uid what l f g k x fv w hb hN hr hf hl hG hu0 hu1 hk hx hs hd).mono ?_
      rintro e w' h
      have h' := h
      by_cases h12 : 12 < g.length
      · rw [if_pos h12] at h' ⊢
        simpa [h12] using h'.out
      · rw [if_neg h12] at h' ⊢
        simpa [h12] using h'.out

/-- a post as a value -/
def pstV (x : Pst) (fv : Value) : Value := .agg #[.int .i64 x.what, .int .i64 x.uid, .int .i64 x.n, fv, .string ⟨x.text.toArray⟩]
theorem five_cells {w : World} {U : Nat} {a b c d e : Value} {t : TypeId} {fz : Nat × Nat} (h : w.heap[U]? = some (.cells #[a, b, c, d, e] t fz)) : w.cell? ⟨U, 0, none⟩ = some a ∧ w.cell? ⟨U, 1, none⟩ = some b ∧ w.cell? ⟨U, 2, none⟩ = some c ∧ w.cell? ⟨U, 3, none⟩ = some d ∧ w.cell? ⟨U, 4, none⟩ = some e :=
  ⟨by rw [Lib.cell_of_heap h]; rfl, by rw [Lib.cell_of_heap h]; rfl, by rw [Lib.cell_of_heap h]; rfl, by rw [Lib.cell_of_heap h]; rfl, by rw [Lib.cell_of_heap h]; rfl⟩
set_option maxRecDepth 100000 in
set_option maxHeartbeats 8000000 in
theorem post_any (N B : Nat) (b : BoxP) (x : Pst) (fv : Value) (w : World) (hb : BoxS N w B b) (hN : N ≤ B) (hr : rightB b = true) (hf : SRow w fv x.flags) (hl : Short x.flags) (ht : x.text.length ≤ 1000000) (hG : FlagG w) (hgN : 0 < N)
    (hu0 : -9223372036854775808 ≤ x.uid) (hu1 : x.uid ≤ 9223372036854775807) (hn0 : -9223372036854775808 ≤ x.n) (hn1 : x.n ≤ 9223372036854775807) :
    Calls Tryd.prog 6 #[.pointer (some ⟨B, 0, none⟩), .agg #[.int .i64 x.what, .int .i64 x.uid, .int .i64 x.n, fv, .string ⟨x.text.toArray⟩]] w fun e w' => Hid (e = .returned (errV (postB b x (pickF x.n 100) (pickF x.n 3)).1) ∧ BoxS N w' B (postB b x (pickF x.n 100) (pickF x.n 3)).2 ∧ Kept (fun k => k = B) w w') := by
  obtain ⟨fa, fc, hfv⟩ : ∃ fa fc, fv = .slice fa x.flags.length fc := by
    obtain ⟨ao, cap, h, _⟩ := hf
    exact ⟨_, _, h⟩
  subst hfv
  obtain ⟨wh, ui, nn, fl, tx⟩ := x
  simp only at *
  have hBl : B < w.heap.size := by
    obtain ⟨lv, hB, _⟩ := hb.at
    exact (Array.getElem?_eq_some_iff.1 hB).1
  have y0 : Below w.heap.size w (w.alloc (.cells #[.int .i64 wh, .int .i64 ui, .int .i64 nn, .slice fa fl.length fc, .string ⟨tx.toArray⟩] 36)) := (Below.refl _ _).alloc (Nat.le_refl _) _
  have x0 := World.heap_alloc_new w (.cells #[.int .i64 wh, .int .i64 ui, .int .i64 nn, .slice fa fl.length fc, .string ⟨tx.toArray⟩] 36)
  obtain ⟨w1, hw1⟩ : ∃ w1, w.alloc (.cells #[.int .i64 wh, .int .i64 ui, .int .i64 nn, .slice fa fl.length fc, .string ⟨tx.toArray⟩] 36) = w1 := ⟨_, rfl⟩
  rw [hw1] at x0 y0
  have hb1 := hb.below y0
  have hf1 := hf.below y0
  have hG1 := hG.below y0
  obtain ⟨k0, k1, k2, k3, k4⟩ := five_cells x0
  have hXB : w.heap.size ≠ B := by omega
  have cP1 : ∀ W, Calls Tryd.prog 17 #[.int .i64 nn, .int .i64 100] W fun e w' => e = .returned (.int .i64 (pickF nn 100 : Int)) ∧ W = w' := fun W => pick_any nn 100 W (by decide) (by decide) hn0 hn1
  have cP2 : ∀ W, Calls Tryd.prog 17 #[.int .i64 nn, .int .i64 3] W fun e w' => e = .returned (.int .i64 (pickF nn 3 : Int)) ∧ W = w' := fun W => pick_any nn 3 W (by decide) (by decide) hn0 hn1
  have hX := Lib.hid x0
  have HK : ∀ w', Kept (fun k => k = B) w1 w' → Kept (fun k => k = B) w w' := fun w' h => (kept_below y0).trans h
  have HKK := Lib.hid HK
  have hlt3 := pick_lt nn (show 0 < 3 by decide)
  obtain ⟨P100, hP100⟩ : ∃ p, pickF nn 100 = p := ⟨_, rfl⟩
  obtain ⟨P3, hP3⟩ : ∃ p, pickF nn 3 = p := ⟨_, rfl⟩
  rw [hP100] at cP1 ⊢
  rw [hP3] at cP2 hlt3 ⊢
  have hXl : w.heap.size < w1.heap.size := (Array.getElem?_eq_some_iff.1 x0).1
  clear HK hP100 hP3 x0
  by_cases h0 : wh = 0
  · subst h0
    have cA := fun W (h : Below w1.heap.size w1 W) => app_any N B b fl (.slice fa fl.length fc) (P100 : Int) tx W (hb1.below h) hN hr (hf1.below h) hl ht (hG1.below h)
    have hpb : postB b ⟨0, ui, nn, fl, tx⟩ P100 P3 = (errO (appB b fl P100 tx).1, (appB b fl P100 tx).2) := by unfold postB; rw [if_pos rfl]
    rw [hpb]
    obtain ⟨E, hE⟩ : ∃ E, errV (errO (appB b fl P100 tx).1) = E := ⟨_, rfl⟩
    rw [hE] at cA ⊢
    clear hpb hE hb hf hf1 hG hb1
    go_enter Tryd.func6, Tryd.ntmps6
    have hkeep : ∀ (W W' : World), W.heap[w.heap.size]? = some (.cells #[.int .i64 0, .int .i64 ui, .int .i64 nn, .slice fa fl.length fc, .string ⟨tx.toArray⟩] 36 (0, 0)) → Kept (fun k => k = B) W W' → W'.cell? ⟨w.heap.size, 1, none⟩ = some (.int .i64 ui) ∧ W'.cell? ⟨w.heap.size, 2, none⟩ = some (.int .i64 nn) ∧ W'.cell? ⟨w.heap.size, 3, none⟩ = some (.slice fa fl.length fc) ∧ W'.cell? ⟨w.heap.size, 4, none⟩ = some (.string ⟨tx.toArray⟩) := fun W W' h hk => by
      obtain ⟨_, q1, q2, q3, q4⟩ := five_cells (hk.obj h hXB)
      exact ⟨q1, q2, q3, q4⟩
    have HKEEP := Lib.hid hkeep
    clear hkeep
    go_wp2_with fail
    have kd := (Below.refl w1.heap.size w1).drew
    have hXd : w1.drew.heap[w.heap.size]? = some (.cells #[.int .i64 0, .int .i64 ui, .int .i64 nn, .slice fa fl.length fc, .string ⟨tx.toArray⟩] 36 (0, 0)) := hX.out
    have HXD := Lib.hid hXd
    have hfin : ∀ W, Kept (fun k => k = B) w1.drew W → Kept (fun k => k = B) w W := fun W h => HKK.out _ ((kept_below kd).trans h)
    have HFIN := Lib.hid hfin
    clear hXd hfin
    go_region_held3 (fun W => W.cell? ⟨w.heap.size, 1, none⟩ = some (.int .i64 ui) ∧ W.cell? ⟨w.heap.size, 2, none⟩ = some (.int .i64 nn) ∧ W.cell? ⟨w.heap.size, 3, none⟩ = some (.slice fa fl.length fc) ∧ W.cell? ⟨w.heap.size, 4, none⟩ = some (.string ⟨tx.toArray⟩))
      (first | exact HKEEP.out _ _ HXD.out (Kept.refl _ _) | exact HKEEP.out _ _ HXD.out hkp)
      (first
        | (go_at_call 17; with_reducible refine (cP1 _).mono ?_; rintro e w2 ⟨rfl, hw⟩; rw [← hw]; clear hw)
        | (go_at_call 13; (with_reducible refine (cA _ kd).mono ?_); rintro e w3 ⟨r, rfl, hbx, hkp⟩))
    go_wp2_with fail
    go_ret
    exact ⟨rfl, hbx, HFIN.out _ hkp⟩
  · by_cases h1 : wh = 1
    · subst h1
      have cA := fun W (h : Below w1.heap.size w1 W) => flag_any N B b ui (P3 : Int) fl (.slice fa fl.length fc) W (hb1.below h) hN hr (hf1.below h) hl (hG1.below h) hu0 hu1 (by omega)
      have hpb : postB b ⟨1, ui, nn, fl, tx⟩ P100 P3 = flagB b ui P3 fl := by unfold postB; rw [if_neg (show ¬ ((1 : Int) = 0) by decide), if_pos rfl]
      rw [hpb]
      obtain ⟨E, hE⟩ : ∃ E, errV (flagB b ui P3 fl).1 = E := ⟨_, rfl⟩
      rw [hE] at cA ⊢
      clear hpb hE hb hf hf1 hG hb1
      go_enter Tryd.func6, Tryd.ntmps6
      have hkeep : ∀ (W W' : World), W.heap[w.heap.size]? = some (.cells #[.int .i64 1, .int .i64 ui, .int .i64 nn, .slice fa fl.length fc, .string ⟨tx.toArray⟩] 36 (0, 0)) → Kept (fun k => k = B) W W' → W'.cell? ⟨w.heap.size, 1, none⟩ = some (.int .i64 ui) ∧ W'.cell? ⟨w.heap.size, 2, none⟩ = some (.int .i64 nn) ∧ W'.cell? ⟨w.heap.size, 3, none⟩ = some (.slice fa fl.length fc) ∧ W'.cell? ⟨w.heap.size, 4, none⟩ = some (.string ⟨tx.toArray⟩) := fun W W' h hk => by
        obtain ⟨_, q1, q2, q3, q4⟩ := five_cells (hk.obj h hXB)
        exact ⟨q1, q2, q3, q4⟩
      have HKEEP := Lib.hid hkeep
      clear hkeep
      go_wp2_with fail
      have kd := (Below.refl w1.heap.size w1).drew
      have hXd : w1.drew.heap[w.heap.size]? = some (.cells #[.int .i64 1, .int .i64 ui, .int .i64 nn, .slice fa fl.length fc, .string ⟨tx.toArray⟩] 36 (0, 0)) := hX.out
      have HXD := Lib.hid hXd
      have hfin : ∀ W, Kept (fun k => k = B) w1.drew W → Kept (fun k => k = B) w W := fun W h => HKK.out _ ((kept_below kd).trans h)
      have HFIN := Lib.hid hfin
      clear hXd hfin
      go_region_held3 (fun W => W.cell? ⟨w.heap.size, 1, none⟩ = some (.int .i64 ui) ∧ W.cell? ⟨w.heap.size, 2, none⟩ = some (.int .i64 nn) ∧ W.cell? ⟨w.heap.size, 3, none⟩ = some (.slice fa fl.length fc) ∧ W.cell? ⟨w.heap.size, 4, none⟩ = some (.string ⟨tx.toArray⟩))
        (first | exact HKEEP.out _ _ HXD.out (Kept.refl _ _) | exact HKEEP.out _ _ HXD.out hkp)
        (first
          | (go_at_call 17; with_reducible refine (cP2 _).mono ?_; rintro e w2 ⟨rfl, hw⟩; rw [← hw]; clear hw)
          | (go_at_call 14; (with_reducible refine (cA _ kd).mono ?_); rintro e w3 ⟨rfl, hbx, hkp⟩))
      go_wp2_with fail
      go_ret
      exact ⟨rfl, hbx, HFIN.out _ hkp⟩
    · by_cases h2 : wh = 2
      · subst h2
        have cA := exp_post w.heap.size N B b (holF nn) w1 hb1 hN (fun x hx => by have := (set_ok (right_flags hr hx)).2.2; omega) (by have := right_len hr; omega) (fun x hx W hW => by
          have hx2 := (rising_of hr).1 x hx
          exact post1_any nn x.uid w.heap.size W ((hW.cell (p := ⟨w.heap.size, 2, none⟩) hXl).trans k2) (by omega) (by omega) hn0 hn1)
        have hpb : postB b ⟨2, ui, nn, fl, tx⟩ P100 P3 = (none, (expB b (holF nn)).2) := by unfold postB; rw [if_neg (show ¬ ((2 : Int) = 0) by decide), if_neg (show ¬ ((2 : Int) = 1) by decide), if_pos rfl]
        rw [hpb]
        clear hpb hb hf hf1 hG hb1
        go_enter Tryd.func6, Tryd.ntmps6
        go_wp2_with (go_at_call 15; (with_reducible refine cA.mono ?_); rintro e w3 ⟨ov, rfl, _, hbx, hkp⟩)
        go_ret
        exact ⟨rfl, hbx, HKK.out _ hkp⟩
      · have hpb : postB b ⟨wh, ui, nn, fl, tx⟩ P100 P3 = (none, b) := by unfold postB; rw [if_neg h0, if_neg h1, if_neg h2]
        rw [hpb]
        have e0 : (wh == 0) = false := beq_eq_false_iff_ne.2 h0
        have e1 : (wh == 1) = false := beq_eq_false_iff_ne.2 h1
        have e2 : (wh == 2) = false := beq_eq_false_iff_ne.2 h2
        have HB1 := Lib.hid hb1
        clear hpb hb hf hf1 hG hb1 h0 h1 h2
        go_enter Tryd.func6, Tryd.ntmps6
        go_wp2_with fail
        go_ret
        exact ⟨rfl, HB1.out, kept_below y0⟩
end Go.Proofs.YteabnpahhkicaaaDoor
