/- The walk over wire's parser: a part that is no list. Conditions: strconv's table of powers and its two errors, and bytealg.MaxLen, lie as the program's text lays them. -/
import Derived.Test.YtbfndlmihijcgaaGreatDoorParseB
import Derived.Test.YtbfndlmihijcgaaGreatDoorParseC
import Derived.Test.YtbfndlmihijcgaaGreatDoorArgR
import Derived.Test.YtbfndlmihijcgaaGreatDoorPRead
import Derived.Laws.Rows
namespace Go.Proofs.YtbfndlmihijcgaaGreatDoor
open Go.RowKit Go.Shelf Go.Sort

theorem arg_size : (Tryz.prog.info? 37).map (·.size) = some 3 := by kernel_rfl
theorem arg_info : (Tryz.prog.info? 37).map (fun i => (i.zero, i.size, i.bytes)) = some (some (.agg #[.int .i64 0, .string ByteArray.empty, .slice none 0 0]), 3, 48) := by kernel_rfl
abbrev zero3 : Array Value := #[.int .i64 0, .string ⟨#[]⟩, .slice none 0 0]
theorem set_three {w : World} {U : Nat} {a b c : Value} {T : TypeId} (h : w.heap[U]? = some (.cells #[a, b, c] T (0, 0))) (x y z : Value) : (((w.setCell ⟨U, 0, none⟩ x).setCell ⟨U, 1, none⟩ y).setCell ⟨U, 2, none⟩ z).heap[U]? = some (.cells #[x, y, z] T (0, 0)) := by
  simp only [World.setCell, Array.getElem?_modify, if_pos, h]
  simp
theorem three_heap (w : World) (U : Nat) (x y z : Value) (k : Nat) (h : k ≠ U) : (((w.setCell ⟨U, 0, none⟩ x).setCell ⟨U, 1, none⟩ y).setCell ⟨U, 2, none⟩ z).heap[k]? = w.heap[k]? := by
  rw [Below.heap_setCell _ _ _ _ h, Below.heap_setCell _ _ _ _ h, Below.heap_setCell _ _ _ _ h]
theorem three_size (w : World) (U : Nat) (x y z : Value) : (((w.setCell ⟨U, 0, none⟩ x).setCell ⟨U, 1, none⟩ y).setCell ⟨U, 2, none⟩ z).heap.size = w.heap.size := by rw [set_size, set_size, set_size]
/-- what arg brings: a part, or a failure -/
def ArgR (P : Nat) (S : List UInt8) (w : World) (r : Except (Nat × Nat) (ArgP × Nat × Nat)) (e : Ending) (w' : World) : Prop := match r with
  | .error (E, p) => FailsW P E p w e w'
  | .ok (x, b, m) => ∃ v, e = .returned (.agg #[.int .i64 (x.kind : Int), .string ⟨x.text.toArray⟩, v]) ∧ ReadsA w' (fun j => w.heap.size ≤ j) v x.list ∧ ParsW w' P S b m ∧ Kept (fun k => k = P) w w'
theorem ParsW.setN {w : World} {P a n : Nat} {S : List UInt8} (h : ParsW w P S a n) (b : Nat) : ParsW (w.setCell ⟨P, 2, none⟩ (.int .i64 (b : Int))) P S a b := set3_2 h
theorem ParsW.at {w w' : World} {P a n : Nat} {S : List UInt8} (h : ParsW w P S a n) (hk : w'.heap[P]? = w.heap[P]?) : ParsW w' P S a n := hk.trans h

/-- the world in which arg begins its work -/
abbrev argW (w : World) (P n : Nat) : World := (w.setCell ⟨P, 2, none⟩ (.int .i64 ((n : Int) + 1))).alloc (.cells zero3 37)
theorem argW_pars {w : World} {P a n : Nat} {S : List UInt8} (h : ParsW w P S a n) : ParsW (argW w P n) P S a (n + 1) := alloc_same (h.setN (n + 1))
theorem argW_row (w : World) (P n : Nat) : (argW w P n).heap[w.heap.size]? = some (.cells zero3 37 (0, 0)) := by
  have := World.heap_alloc_new (w.setCell ⟨P, 2, none⟩ (.int .i64 ((n : Int) + 1))) (.cells zero3 37)
  rwa [set_size] at this
theorem argW_kept (w : World) (P n : Nat) : Kept (fun k => k = P) w (argW w P n) := ((Kept.refl _ w).setB _).alloc _
theorem argW_size (w : World) (P n : Nat) : (argW w P n).heap.size = w.heap.size + 1 := by rw [alloc_size, set_size]

set_option maxRecDepth 100000 in
set_option maxHeartbeats 8000000 in
theorem arg_limit (P a n d f : Nat) (S : List UInt8) (w : World) (hP : ParsW w P S a n) (hn : n ≤ 60) (hd : d ≤ 7) (hf : 60 < n + 1 ∨ 6 < d) : Calls Tryz.prog 17 #[.pointer (some ⟨P, 0, none⟩), .int .i64 (d : Int)] w (ArgR P S w (argF S (f + 1) d a n)) := by
  have e : argF S (f + 1) d a n = .error (4, a) := by rw [argF, if_pos hf]
  rw [e]
  obtain ⟨c0, c1, c2⟩ := three_cells hP
  have f2 := Lib.frozen_of_heap hP 2
  have cF : ∀ W, ParsW W P S a (n + 1) → Calls Tryz.prog 12 #[.pointer (some ⟨P, 0, none⟩), .int .i64 4] W (FailsW P 4 a W) := fun W h => fail_any P a (n + 1) 4 S W h
  have HP := Lib.hid (argW_pars hP)
  have hPl := hP.lt
  clear hP e
  by_cases h60 : 60 < n + 1
  · have h60z : (60 : Int) < (n : Int) + 1 := by omega
    go_enter Tryz.func17, Tryz.ntmps17
    go_wp2_with (go_at_call 12; go_loud (((with_reducible refine (cF _ HP.out).mono ?_); rintro e w1 h; obtain ⟨b, rfl, h1, h2, h3⟩ := h)))
    exact ⟨rfl, FailsW.from ⟨b, rfl, h1, h2, h3⟩ (argW_kept w P n)⟩
  · have h60z : decide ((60 : Int) < (n : Int) + 1) = false := decide_eq_false (by omega)
    have hdz : (6 : Int) < (d : Int) := by omega
    go_enter Tryz.func17, Tryz.ntmps17
    go_wp2_with (go_at_call 12; go_loud (((with_reducible refine (cF _ HP.out).mono ?_); rintro e w1 h; obtain ⟨b, rfl, h1, h2, h3⟩ := h)))
    exact ⟨rfl, FailsW.from ⟨b, rfl, h1, h2, h3⟩ (argW_kept w P n)⟩

/-- what has been read is laid as the result -/
theorem arg_done {P b m : Nat} {S t : List UInt8} {w w1 w2 : World} {k : Nat} (hR : w.heap.size ≠ P) (hz : w2.heap[w.heap.size]? = some (.cells zero3 37 (0, 0))) (hP : ParsW w2 P S b m) (hK : Kept (fun k => k = P) w w2) (hw : w1 = ((w2.setCell ⟨w.heap.size, 0, none⟩ (.int .i64 (k : Int))).setCell ⟨w.heap.size, 1, none⟩ (.string ⟨t.toArray⟩)).setCell ⟨w.heap.size, 2, none⟩ (.slice none 0 0)) :
    ArgR P S w (.ok (.mk k t [], b, m)) (.returned (.agg #[.int .i64 (k : Int), .string ⟨t.toArray⟩, .slice none 0 0])) w1 := by
  subst hw
  refine ⟨_, rfl, .empty, hP.at (three_heap _ _ _ _ _ _ (Ne.symm hR)), ?_⟩
  exact ((hK.setNew (p := ⟨w.heap.size, 0, none⟩) (Nat.le_refl _) _).setNew (p := ⟨w.heap.size, 1, none⟩) (Nat.le_refl _) _).setNew (p := ⟨w.heap.size, 2, none⟩) (Nat.le_refl _) _
theorem argR_err {P E p : Nat} {S : List UInt8} {w : World} {e : Ending} {w' : World} (h : FailsW P E p w e w') : ArgR P S w (.error (E, p)) e w' := h

set_option maxRecDepth 100000 in
set_option maxHeartbeats 8000000 in
/-- at the end, or where no list begins -/
theorem arg_leaf (P a n d f : Nat) (S : List UInt8) (w : World) (hP : ParsW w P S a n) (hS : S.length ≤ 1000000) (h2 : 2 ≤ S.length) (ha : a ≤ S.length) (hf : ¬(60 < n + 1 ∨ 6 < d)) (h40 : (bodyL S)[a]? ≠ some 40) (hG : WireG w) : Calls Tryz.prog 17 #[.pointer (some ⟨P, 0, none⟩), .int .i64 (d : Int)] w (ArgR P S w (argF S (f + 1) d a n)) := by
  obtain ⟨hn, hd⟩ : n + 1 ≤ 60 ∧ d ≤ 6 := by omega
  obtain ⟨c0, c1, c2⟩ := three_cells hP
  have f2 := Lib.frozen_of_heap hP 2
  have hPl := hP.lt
  have hRP : w.heap.size ≠ P := by omega
  have hP1 := argW_pars hP
  have hz1 := argW_row w P n
  have hK1 := argW_kept w P n
  have hG1 := hG.kept hP hK1
  obtain ⟨w1, hw1⟩ : ∃ w1, argW w P n = w1 := ⟨_, rfl⟩
  rw [hw1] at hP1 hz1 hK1 hG1
  have HW := Lib.hid hw1
  have HP1 := Lib.hid hP1
  have HZ1 := Lib.hid hz1
  have HK1 := Lib.hid hK1
  have HG1 := Lib.hid hG1
  have h60z : decide ((60 : Int) < (n : Int) + 1) = false := decide_eq_false (by omega)
  have hdz : decide ((6 : Int) < (d : Int)) = false := decide_eq_false (by omega)
  have hts := w_size S
  have cE := fun W (h : ParsW W P S a (n + 1)) => end_any P a (n + 1) S W h hS h2
  have cF : ∀ W, ParsW W P S a (n + 1) → Calls Tryz.prog 12 #[.pointer (some ⟨P, 0, none⟩), .int .i64 3] W (FailsW P 3 a W) := fun W h => fail_any P a (n + 1) 3 S W h
  clear hP hw1 hP1 hz1 hK1 hG1 hG
  cases hc : (bodyL S)[a]? with
  | none =>
    have e : argF S (f + 1) d a n = .error (3, a) := by rw [argF, if_neg hf, hc]
    rw [e]
    have hl : S.length ≤ a + 2 := by
      have := List.getElem?_eq_none_iff.1 hc
      rw [bodyL_len] at this; omega
    rw [decide_eq_true hl] at cE
    clear hc h40 e hf
    go_enter Tryz.func17, Tryz.ntmps17
    go_upto_region 4 with fail
    rw [show (w.setCell ⟨P, 2, none⟩ (.int .i64 ((n : Int) + 1))).alloc (.cells #[.int .i64 0, .string ⟨#[]⟩, .slice none 0 0] 37) = w1 from HW.out]
    clear c0 c1 c2 f2
    go_wp2_with (first
      | (go_at_call 16; ((with_reducible refine (cE _ HP1.out).mono ?_); rintro e w2 ⟨rfl, q, rfl⟩))
      | (go_at_call 12; go_loud (((with_reducible refine (cF _ (HP1.out.drewN _)).mono ?_); rintro e w2 h; obtain ⟨b, rfl, h1, h2, h3⟩ := h))))
    exact ⟨rfl, argR_err (FailsW.from ⟨b, rfl, h1, h2, h3⟩ (kept_drewN HK1.out _))⟩
  | some c =>
    obtain ⟨hl, hc'⟩ := bodyL_get hc
    rw [decide_eq_false (by omega)] at cE
    have hal : (a : Int) < (S.length : Int) := by omega
    have hx : ∀ h, (⟨S.toArray⟩ : ByteArray)[a]'h = c := byte_at hc'
    have hne40 : c ≠ 40 := fun e => h40 (by rw [hc, e])
    obtain ⟨e40, n40⟩ : ((c.toNat : Int) == 40) = false ∧ ((c.toNat : Int) != 40) = true := byte_not (c := c) (n := 40) (by decide) hne40
    rw [arg_head hn hd hc]
    by_cases h34 : c = 34
    · rw [if_pos h34]
      obtain ⟨e34, n34⟩ : ((c.toNat : Int) == 34) = true ∧ ((c.toNat : Int) != 34) = false := byte_yes (c := c) (n := 34) (by decide) h34
      have cQ := fun W (h : ParsW W P S a (n + 1)) => quoted_any P a (n + 1) S W h hS h2 hl
      cases hq : quoL ((bodyL S).drop (a + 1)) (a + 1) with
      | error p =>
        have cQ1 : ∀ W, ParsW W P S a (n + 1) → Calls Tryz.prog 29 #[.pointer (some ⟨P, 0, none⟩)] W (FailsW P 3 p W) := fun W h => (cQ W h).mono fun e w' h => by unfold QuoR at h; rw [hq] at h; exact h
        show Calls _ _ _ _ (ArgR P S w (.error (3, p)))
        clear hc hc' cQ hq h34 hne40 h40 hf
        as_aux_lemma =>
        go_enter Tryz.func17, Tryz.ntmps17
        go_upto_region 4 with fail
        rw [show (w.setCell ⟨P, 2, none⟩ (.int .i64 ((n : Int) + 1))).alloc (.cells #[.int .i64 0, .string ⟨#[]⟩, .slice none 0 0] 37) = w1 from HW.out]
        clear c0 c1 c2 f2
        have hP1 := HP1.out
        obtain ⟨c0, c1, c2⟩ := three_cells hP1
        go_wp2_with (go_at_call 16; ((with_reducible refine (cE _ hP1).mono ?_); rintro e w2 ⟨rfl, q, rfl⟩))
        have hP2 := hP1.drewN q
        have hK2 := kept_drewN HK1.out q
        have hz2 : (w1.drewN q).heap[w.heap.size]? = some (.cells zero3 37 (0, 0)) := HZ1.out
        have hG2 := HG1.out.below (drewN_below w1 q)
        generalize w1.drewN q = w2 at hP2 hK2 hz2 hG2 ⊢
        clear hP1 c0 c1 c2
        obtain ⟨c0, c1, c2⟩ := three_cells hP2
        go_quiet (fail)
        have hP3 := hP2.drewN nq
        have HK3 := Lib.hid (kept_drewN hK2 nq)
        have HZ3 : Hid ((w2.drewN nq).heap[w.heap.size]? = some (.cells zero3 37 (0, 0))) := Lib.hid hz2
        have hG3 := hG2.below (drewN_below w2 nq)
        generalize w2.drewN nq = w3 at hP3 HK3 HZ3 hG3 ⊢
        clear hP2 hK2 hz2 hG2 c0 c1 c2
        go_wp2_with (go_at_call 29; go_loud (((with_reducible refine (cQ1 _ hP3).mono ?_); rintro e w4 h; obtain ⟨b, rfl, h1, h2, h3⟩ := h)))
        exact ⟨rfl, argR_err (FailsW.from ⟨b, rfl, h1, h2, h3⟩ HK3.out)⟩
      | ok r =>
        obtain ⟨t, b⟩ := r
        have cQ1 : ∀ W, ParsW W P S a (n + 1) → Calls Tryz.prog 29 #[.pointer (some ⟨P, 0, none⟩)] W fun e w' => e = .returned (.string ⟨t.toArray⟩) ∧ ParsW w' P S b (n + 1) ∧ Kept (fun k => k = P) W w' := fun W h => (cQ W h).mono fun e w' h => by unfold QuoR at h; rw [hq] at h; exact h
        show Calls _ _ _ _ (ArgR P S w (.ok (.mk 2 t [], b, n + 1)))
        clear hc hc' cQ hq h34 hne40 h40 hf
        as_aux_lemma =>
        go_enter Tryz.func17, Tryz.ntmps17
        go_upto_region 4 with fail
        rw [show (w.setCell ⟨P, 2, none⟩ (.int .i64 ((n : Int) + 1))).alloc (.cells #[.int .i64 0, .string ⟨#[]⟩, .slice none 0 0] 37) = w1 from HW.out]
        clear c0 c1 c2 f2
        have hP1 := HP1.out
        obtain ⟨c0, c1, c2⟩ := three_cells hP1
        go_wp2_with (go_at_call 16; ((with_reducible refine (cE _ hP1).mono ?_); rintro e w2 ⟨rfl, q, rfl⟩))
        have hP2 := hP1.drewN q
        have hK2 := kept_drewN HK1.out q
        have hz2 : (w1.drewN q).heap[w.heap.size]? = some (.cells zero3 37 (0, 0)) := HZ1.out
        have hG2 := HG1.out.below (drewN_below w1 q)
        generalize w1.drewN q = w2 at hP2 hK2 hz2 hG2 ⊢
        clear hP1 c0 c1 c2
        obtain ⟨c0, c1, c2⟩ := three_cells hP2
        go_quiet (fail)
        have hP3 := hP2.drewN nq
        have HK3 := Lib.hid (kept_drewN hK2 nq)
        have HZ3 : Hid ((w2.drewN nq).heap[w.heap.size]? = some (.cells zero3 37 (0, 0))) := Lib.hid hz2
        have hG3 := hG2.below (drewN_below w2 nq)
        generalize w2.drewN nq = w3 at hP3 HK3 HZ3 hG3 ⊢
        clear hP2 hK2 hz2 hG2 c0 c1 c2
        go_wp2_with (go_at_call 29; go_loud (((with_reducible refine (cQ1 _ hP3).mono ?_); rintro e w4 ⟨rfl, hP4, hK4⟩; have hz4 := hK4.obj HZ3.out hRP; obtain ⟨r0, r1, r2⟩ := three_cells hz4; have fz := Lib.frozen_of_heap hz4)))
        exact bodyPost_ret (results_cell_row (P := Tryz.prog) rfl _ _ w.heap.size _ _ _ _ rfl (set_three hz4 _ _ _) Tryz.underlying37 rfl arg_size) rfl (arg_done (k := 2) hRP hz4 hP4 (HK3.out.trans hK4) rfl)
    · rw [if_neg h34]
      obtain ⟨e34, n34⟩ : ((c.toNat : Int) == 34) = false ∧ ((c.toNat : Int) != 34) = true := byte_not (c := c) (n := 34) (by decide) h34
      by_cases h123 : c = 123
      · rw [if_pos h123]
        obtain ⟨e123, n123⟩ : ((c.toNat : Int) == 123) = true ∧ ((c.toNat : Int) != 123) = false := byte_yes (c := c) (n := 123) (by decide) h123
        have cQ := fun W (h : ParsW W P S a (n + 1)) hG => bytes_any P a (n + 1) S W h hS h2 hl hG
        cases hq : bytF S a with
        | none =>
          have cQ1 : ∀ W, ParsW W P S a (n + 1) → WireG W → Calls Tryz.prog 30 #[.pointer (some ⟨P, 0, none⟩)] W (FailsW P 3 a W) := fun W h hG => (cQ W h hG).mono fun e w' h => by unfold BytR at h; rw [hq] at h; exact h
          show Calls _ _ _ _ (ArgR P S w (.error (3, a)))
          clear hc hc' cQ hq h34 h123 hne40 h40 hf
          as_aux_lemma =>
          go_enter Tryz.func17, Tryz.ntmps17
          go_upto_region 4 with fail
          rw [show (w.setCell ⟨P, 2, none⟩ (.int .i64 ((n : Int) + 1))).alloc (.cells #[.int .i64 0, .string ⟨#[]⟩, .slice none 0 0] 37) = w1 from HW.out]
          clear c0 c1 c2 f2
          have hP1 := HP1.out
          obtain ⟨c0, c1, c2⟩ := three_cells hP1
          go_wp2_with (go_at_call 16; ((with_reducible refine (cE _ hP1).mono ?_); rintro e w2 ⟨rfl, q, rfl⟩))
          have hP2 := hP1.drewN q
          have hK2 := kept_drewN HK1.out q
          have hz2 : (w1.drewN q).heap[w.heap.size]? = some (.cells zero3 37 (0, 0)) := HZ1.out
          have hG2 := HG1.out.below (drewN_below w1 q)
          generalize w1.drewN q = w2 at hP2 hK2 hz2 hG2 ⊢
          clear hP1 c0 c1 c2
          obtain ⟨c0, c1, c2⟩ := three_cells hP2
          go_quiet (fail)
          have hP3 := hP2.drewN nq
          have HK3 := Lib.hid (kept_drewN hK2 nq)
          have HZ3 : Hid ((w2.drewN nq).heap[w.heap.size]? = some (.cells zero3 37 (0, 0))) := Lib.hid hz2
          have hG3 := hG2.below (drewN_below w2 nq)
          generalize w2.drewN nq = w3 at hP3 HK3 HZ3 hG3 ⊢
          clear hP2 hK2 hz2 hG2 c0 c1 c2
          go_wp2_with (go_at_call 30; go_loud (((with_reducible refine (cQ1 _ hP3 hG3).mono ?_); rintro e w4 h; obtain ⟨b, rfl, h1, h2, h3⟩ := h)))
          exact ⟨rfl, argR_err (FailsW.from ⟨b, rfl, h1, h2, h3⟩ HK3.out)⟩
        | some r =>
          obtain ⟨t, b⟩ := r
          have cQ1 : ∀ W, ParsW W P S a (n + 1) → WireG W → Calls Tryz.prog 30 #[.pointer (some ⟨P, 0, none⟩)] W fun e w' => e = .returned (.string ⟨t.toArray⟩) ∧ ParsW w' P S b (n + 1) ∧ Kept (fun k => k = P) W w' := fun W h hG => (cQ W h hG).mono fun e w' h => by unfold BytR at h; rw [hq] at h; exact h
          show Calls _ _ _ _ (ArgR P S w (.ok (.mk 2 t [], b, n + 1)))
          clear hc hc' cQ hq h34 h123 hne40 h40 hf
          as_aux_lemma =>
          go_enter Tryz.func17, Tryz.ntmps17
          go_upto_region 4 with fail
          rw [show (w.setCell ⟨P, 2, none⟩ (.int .i64 ((n : Int) + 1))).alloc (.cells #[.int .i64 0, .string ⟨#[]⟩, .slice none 0 0] 37) = w1 from HW.out]
          clear c0 c1 c2 f2
          have hP1 := HP1.out
          obtain ⟨c0, c1, c2⟩ := three_cells hP1
          go_wp2_with (go_at_call 16; ((with_reducible refine (cE _ hP1).mono ?_); rintro e w2 ⟨rfl, q, rfl⟩))
          have hP2 := hP1.drewN q
          have hK2 := kept_drewN HK1.out q
          have hz2 : (w1.drewN q).heap[w.heap.size]? = some (.cells zero3 37 (0, 0)) := HZ1.out
          have hG2 := HG1.out.below (drewN_below w1 q)
          generalize w1.drewN q = w2 at hP2 hK2 hz2 hG2 ⊢
          clear hP1 c0 c1 c2
          obtain ⟨c0, c1, c2⟩ := three_cells hP2
          go_quiet (fail)
          have hP3 := hP2.drewN nq
          have HK3 := Lib.hid (kept_drewN hK2 nq)
          have HZ3 : Hid ((w2.drewN nq).heap[w.heap.size]? = some (.cells zero3 37 (0, 0))) := Lib.hid hz2
          have hG3 := hG2.below (drewN_below w2 nq)
          generalize w2.drewN nq = w3 at hP3 HK3 HZ3 hG3 ⊢
          clear hP2 hK2 hz2 hG2 c0 c1 c2
          go_wp2_with (go_at_call 30; go_loud (((with_reducible refine (cQ1 _ hP3 hG3).mono ?_); rintro e w4 ⟨rfl, hP4, hK4⟩; have hz4 := hK4.obj HZ3.out hRP; obtain ⟨r0, r1, r2⟩ := three_cells hz4; have fz := Lib.frozen_of_heap hz4)))
          exact bodyPost_ret (results_cell_row (P := Tryz.prog) rfl _ _ w.heap.size _ _ _ _ rfl (set_three hz4 _ _ _) Tryz.underlying37 rfl arg_size) rfl (arg_done (k := 2) hRP hz4 hP4 (HK3.out.trans hK4) rfl)
      · rw [if_neg h123, if_neg hne40]
        obtain ⟨e123, n123⟩ : ((c.toNat : Int) == 123) = false ∧ ((c.toNat : Int) != 123) = true := byte_not (c := c) (n := 123) (by decide) h123
        have cQ := fun W (h : ParsW W P S a (n + 1)) => word_any P a (n + 1) S W h hS h2 ha
        by_cases hq : wordL S a = []
        · rw [if_pos hq]
          have cQ1 : ∀ W, ParsW W P S a (n + 1) → Calls Tryz.prog 13 #[.pointer (some ⟨P, 0, none⟩)] W (FailsW P 3 a W) := fun W h => (cQ W h).mono fun e w' h => by unfold WordR at h; rw [if_pos hq] at h; exact h
          clear hc hc' cQ hq h34 h123 hne40 h40 hf
          as_aux_lemma =>
          go_enter Tryz.func17, Tryz.ntmps17
          go_upto_region 4 with fail
          rw [show (w.setCell ⟨P, 2, none⟩ (.int .i64 ((n : Int) + 1))).alloc (.cells #[.int .i64 0, .string ⟨#[]⟩, .slice none 0 0] 37) = w1 from HW.out]
          clear c0 c1 c2 f2
          have hP1 := HP1.out
          obtain ⟨c0, c1, c2⟩ := three_cells hP1
          go_wp2_with (go_at_call 16; ((with_reducible refine (cE _ hP1).mono ?_); rintro e w2 ⟨rfl, q, rfl⟩))
          have hP2 := hP1.drewN q
          have hK2 := kept_drewN HK1.out q
          have hz2 : (w1.drewN q).heap[w.heap.size]? = some (.cells zero3 37 (0, 0)) := HZ1.out
          have hG2 := HG1.out.below (drewN_below w1 q)
          generalize w1.drewN q = w2 at hP2 hK2 hz2 hG2 ⊢
          clear hP1 c0 c1 c2
          obtain ⟨c0, c1, c2⟩ := three_cells hP2
          go_quiet (fail)
          have hP3 := hP2.drewN nq
          have HK3 := Lib.hid (kept_drewN hK2 nq)
          have HZ3 : Hid ((w2.drewN nq).heap[w.heap.size]? = some (.cells zero3 37 (0, 0))) := Lib.hid hz2
          have hG3 := hG2.below (drewN_below w2 nq)
          generalize w2.drewN nq = w3 at hP3 HK3 HZ3 hG3 ⊢
          clear hP2 hK2 hz2 hG2 c0 c1 c2
          go_wp2_with (go_at_call 13; go_loud (((with_reducible refine (cQ1 _ hP3).mono ?_); rintro e w4 h; obtain ⟨b, rfl, h1, h2, h3⟩ := h)))
          exact ⟨rfl, argR_err (FailsW.from ⟨b, rfl, h1, h2, h3⟩ HK3.out)⟩
        · rw [if_neg hq]
          have cQ1 : ∀ W, ParsW W P S a (n + 1) → Calls Tryz.prog 13 #[.pointer (some ⟨P, 0, none⟩)] W fun e w' => e = .returned (.string ⟨(wordL S a).toArray⟩) ∧ ParsW w' P S (a + (wordL S a).length) (n + 1) ∧ Kept (fun k => k = P) W w' := fun W h => (cQ W h).mono fun e w' h => by unfold WordR at h; rw [if_neg hq] at h; exact h
          clear hc hc' cQ hq h34 h123 hne40 h40 hf
          as_aux_lemma =>
          go_enter Tryz.func17, Tryz.ntmps17
          go_upto_region 4 with fail
          rw [show (w.setCell ⟨P, 2, none⟩ (.int .i64 ((n : Int) + 1))).alloc (.cells #[.int .i64 0, .string ⟨#[]⟩, .slice none 0 0] 37) = w1 from HW.out]
          clear c0 c1 c2 f2
          have hP1 := HP1.out
          obtain ⟨c0, c1, c2⟩ := three_cells hP1
          go_wp2_with (go_at_call 16; ((with_reducible refine (cE _ hP1).mono ?_); rintro e w2 ⟨rfl, q, rfl⟩))
          have hP2 := hP1.drewN q
          have hK2 := kept_drewN HK1.out q
          have hz2 : (w1.drewN q).heap[w.heap.size]? = some (.cells zero3 37 (0, 0)) := HZ1.out
          have hG2 := HG1.out.below (drewN_below w1 q)
          generalize w1.drewN q = w2 at hP2 hK2 hz2 hG2 ⊢
          clear hP1 c0 c1 c2
          obtain ⟨c0, c1, c2⟩ := three_cells hP2
          go_quiet (fail)
          have hP3 := hP2.drewN nq
          have HK3 := Lib.hid (kept_drewN hK2 nq)
          have HZ3 : Hid ((w2.drewN nq).heap[w.heap.size]? = some (.cells zero3 37 (0, 0))) := Lib.hid hz2
          have hG3 := hG2.below (drewN_below w2 nq)
          generalize w2.drewN nq = w3 at hP3 HK3 HZ3 hG3 ⊢
          clear hP2 hK2 hz2 hG2 c0 c1 c2
          go_wp2_with (go_at_call 13; go_loud (((with_reducible refine (cQ1 _ hP3).mono ?_); rintro e w4 ⟨rfl, hP4, hK4⟩; have hz4 := hK4.obj HZ3.out hRP; obtain ⟨r0, r1, r2⟩ := three_cells hz4; have fz := Lib.frozen_of_heap hz4)))
          exact bodyPost_ret (results_cell_row (P := Tryz.prog) rfl _ _ w.heap.size _ _ _ _ rfl (set_three hz4 _ _ _) Tryz.underlying37 rfl arg_size) rfl (arg_done (k := 1) hRP hz4 hP4 (HK3.out.trans hK4) rfl)
end Go.Proofs.YtbfndlmihijcgaaGreatDoor
