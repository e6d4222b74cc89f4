/- The walk over wire's parser: a list of parts. Conditions: strconv's table of powers and its two errors, and bytealg.MaxLen, lie as the program's text lays them. -/
import Derived.Test.YtbfndlmihijcgaaGreatDoorArgL
import Derived.Test.YtbfndlmihijcgaaGreatDoorPBack
import Derived.Test.YtbfndlmihijcgaaGreatDoorHeldS
import Derived.Deep.AppendLies
import Derived.Deep.DrawnRows
import Derived.Deep.DeepCutAuto
import Derived.Deep.CutBlock
namespace Go.Proofs.YtbfndlmihijcgaaGreatDoor
open Go.RowKit Go.Shelf Go.Sort
set_option linter.unusedSimpArgs false

theorem quo_le : ∀ (l : List UInt8) (i : Nat) (t : List UInt8) (j : Nat), quoL l i = .ok (t, j) → j ≤ i + l.length
  | [], i, t, j, h => by rw [quoL] at h; cases h
  | [c], i, t, j, h => by
    by_cases h34 : c = 34
    · subst h34
      rw [quoL] at h
      cases h; simp
    · by_cases h92 : c = 92
      · subst h92; rw [quoL] at h; cases h
      · rw [quoL] at h
        · split at h
          · cases h
          · rw [quoL] at h; cases h
        · exact h34
        · exact fun e _ => h92 e
        · exact fun d r e => absurd e h92
  | c :: d :: r, i, t, j, h => by
    by_cases h34 : c = 34
    · subst h34
      rw [quoL] at h
      cases h; simp
    · by_cases h92 : c = 92
      · subst h92
        rw [quoL] at h
        split at h
        · cases hq : quoL r (i + 2) with
          | error e => rw [hq] at h; cases h
          | ok p =>
            obtain ⟨t', j'⟩ := p
            rw [hq] at h
            cases h
            have := quo_le r (i + 2) t' _ hq
            simp only [List.length_cons]; omega
        · cases h
      · rw [quoL] at h
        · split at h
          · cases h
          · cases hq : quoL (d :: r) (i + 1) with
            | error e => rw [hq] at h; cases h
            | ok p =>
              obtain ⟨t', j'⟩ := p
              rw [hq] at h
              cases h
              have := quo_le (d :: r) (i + 1) t' _ hq
              simp only [List.length_cons] at this ⊢; omega
        · exact h34
        · exact fun e _ => h92 e
        · exact fun d r e => absurd e h92
theorem pos_read (S : List UInt8) : ∀ f : Nat, (∀ (d a n : Nat) (x : ArgP) (b m : Nat), argF S f d a n = .ok (x, b, m) → b ≤ S.length) ∧ (∀ (d a n : Nat) (acc : List ArgP) (x : ArgP) (b m : Nat), listF S f d a n acc = .ok (x, b, m) → b ≤ S.length) := by
  intro f
  induction f with
  | zero => exact ⟨(fun d a n x b m h => by rw [argF] at h; cases h), (fun d a n acc x b m h => by rw [listF] at h; cases h)⟩
  | succ f ih =>
    obtain ⟨ih1, ih2⟩ := ih
    constructor
    · intro d a n x b m h
      by_cases hn : 60 < n + 1 ∨ 6 < d
      · rw [argF, if_pos hn] at h; cases h
      · cases hc : (bodyL S)[a]? with
        | none => rw [argF, if_neg hn, hc] at h; cases h
        | some c =>
          rw [arg_head (by omega) (by omega) hc] at h
          have hal := (bodyL_get hc).1
          split at h
          · split at h
            · cases h
            · rename_i t j hq
              cases h
              have h1 := quo_le _ _ _ _ hq
              rw [List.length_drop, bodyL_len] at h1
              omega
          · split at h
            · split at h
              · cases h
              · rename_i t j hq
                cases h
                exact (byt_len hq).2
            · split at h
              · exact ih2 _ _ _ _ _ _ _ h
              · split at h
                · cases h
                · rename_i hw
                  cases h
                  rcases wordL_le S a with h1 | h1
                  · exact absurd h1 hw
                  · omega
    · intro d a n acc x b m h
      rw [listF] at h
      split at h
      · rename_i h41
        cases h
        have := (bodyL_get h41).1
        omega
      · split at h
        · cases h
        · split at h
          · cases h
          · exact ih2 _ _ _ _ _ _ _ h
theorem list_ok {S : List UInt8} {f d k m : Nat} {acc : List ArgP} (h : (bodyL S)[k]? = some 41) : listF S (f + 1) d k m acc = .ok (.mk 3 [] acc, k + 1, m) := by rw [listF, if_pos h]
theorem list_bad {S : List UInt8} {f d k m : Nat} {acc : List ArgP} (h : (bodyL S)[k]? ≠ some 41) (ha : acc ≠ []) (hb : blankF S k = false) : listF S (f + 1) d k m acc = .error (3, k) := by rw [listF, if_neg h, if_pos ⟨ha, hb⟩]
theorem list_more {S : List UInt8} {f d k m : Nat} {acc : List ArgP} (h : (bodyL S)[k]? ≠ some 41) (hb : acc = [] ∨ blankF S k = true) : listF S (f + 1) d k m acc = match argF S f (d + 1) (if acc = [] then k else k + 1) m with | .error e => .error e | .ok (x, b, m') => listF S f d b m' (acc ++ [x]) := by
  rw [listF, if_neg h, if_neg (fun h9 => hb.elim (fun h3 => h9.1 h3) (fun h3 => by have h8 := h9.2; rw [h3] at h8; cases h8))]
  rfl
attribute [local go_sem ↓] Go.wp_at_zero Go.wp_at_succ
set_option maxRecDepth 100000 in
set_option maxHeartbeats 16000000 in
theorem arg_list (P d f : Nat) (S : List UInt8) (hS : S.length ≤ 1000000) (h2 : 2 ≤ S.length) (hd : d ≤ 6)
    (IH : ∀ f', f' ≤ f → ∀ (a n : Nat) (w : World), ParsW w P S a n → n ≤ 60 → a ≤ S.length → 2 * (60 - n) + 1 ≤ f' → WireG w → Calls Tryz.prog 17 #[.pointer (some ⟨P, 0, none⟩), .int .i64 ((d : Int) + 1)] w (ArgR P S w (argF S f' (d + 1) a n)))
    (a n : Nat) (w : World) (hP : ParsW w P S a n) (hn : n + 1 ≤ 60) (h40 : (bodyL S)[a]? = some 40) (hG : WireG w) (hfu : 2 * (60 - n) ≤ f) :
    Calls Tryz.prog 17 #[.pointer (some ⟨P, 0, none⟩), .int .i64 (d : Int)] w (ArgR P S w (argF S (f + 1) d a n)) := by
  have hf : ¬(60 < n + 1 ∨ 6 < d) := by omega
  obtain ⟨hal, hc'⟩ := bodyL_get h40
  have e : argF S (f + 1) d a n = listF S f d (a + 1) (n + 1) [] := by rw [arg_head (by omega) hd h40]; rfl
  rw [e]
  obtain ⟨R, hR⟩ : ∃ R, listF S f d (a + 1) (n + 1) [] = R := ⟨_, rfl⟩
  rw [hR]
  have HR := Lib.hid hR
  clear e hR hf h40
  obtain ⟨c0, c1, c2⟩ := three_cells hP
  have f2 := Lib.frozen_of_heap hP 2
  have hPl := hP.lt
  have hP1 := argW_pars hP
  have hz1 := argW_row w P n
  have hK1 := argW_kept w P n
  have hs1 := argW_size w P n
  obtain ⟨w1, hw1⟩ : ∃ w1, argW w P n = w1 := ⟨_, rfl⟩
  rw [hw1] at hP1 hz1 hK1 hs1
  have HW := Lib.hid hw1
  have HP1 := Lib.hid hP1
  have HZ1 := Lib.hid hz1
  have HK1 := Lib.hid hK1
  have HS1 := Lib.hid hs1
  have HG := Lib.hid (fun W (h : Kept (fun k => k = P) w W) => hG.kept hP h)
  have h60z : decide ((60 : Int) < (n : Int) + 1) = false := decide_eq_false (by omega)
  have hdz : decide ((6 : Int) < (d : Int)) = false := decide_eq_false (by omega)
  have hts := w_size S
  have cE := fun W k m (h : ParsW W P S k m) => end_any P k m S W h hS h2
  have cE0 := fun W (h : ParsW W P S a (n + 1)) => end_any P a (n + 1) S W h hS h2
  rw [decide_eq_false (by omega)] at cE0
  have haz : (a : Int) < (S.length : Int) := by omega
  have hx : ∀ h, (⟨S.toArray⟩ : ByteArray)[a]'h = 40 := byte_at hc'
  clear hP hw1 hP1 hz1 hK1 hs1 hG hc'
  go_enter Tryz.func17, Tryz.ntmps17
  go_upto_region 4 with fail
  rw [show (w.setCell ⟨P, 2, none⟩ (.int .i64 ((n : Int) + 1))).alloc (.cells #[.int .i64 0, .string ⟨#[]⟩, .slice none 0 0] 37) = w1 from HW.out]
  clear c0 c1 c2 f2 HW
  have hP1 := HP1.out
  obtain ⟨c0, c1, c2⟩ := three_cells hP1
  go_wp2_with (go_at_call 16; ((with_reducible refine (cE0 _ hP1).mono ?_); rintro e w2 ⟨rfl, q, rfl⟩))
  have hP2 := hP1.drewN q
  have HK2 := Lib.hid (kept_drewN HK1.out q)
  have HZ2 : Hid ((w1.drewN q).heap[w.heap.size]? = some (.cells zero3 37 (0, 0))) := Lib.hid HZ1.out
  have HS2 : Hid ((w1.drewN q).heap.size = w.heap.size + 1) := Lib.hid HS1.out
  generalize w1.drewN q = w2 at hP2 HK2 HZ2 HS2 ⊢
  clear hP1 c0 c1 c2 HP1 HK1 HZ1 HS1 cE0
  obtain ⟨c0, c1, c2⟩ := three_cells hP2
  go_quiet (fail)
  have hP3 := hP2.drewN nq
  have HK3 := Lib.hid (kept_drewN HK2.out nq)
  have HZ3 : Hid ((w2.drewN nq).heap[w.heap.size]? = some (.cells zero3 37 (0, 0))) := Lib.hid HZ2.out
  have HS3 : Hid ((w2.drewN nq).heap.size = w.heap.size + 1) := Lib.hid HS2.out
  generalize w2.drewN nq = w3 at hP3 HK3 HZ3 HS3 ⊢
  clear hP2 c0 c1 c2 HK2 HZ2 HS2
  obtain ⟨c0, c1, c2⟩ := three_cells hP3
  have f1 := Lib.frozen_of_heap hP3 1
  have HP3 := Lib.hid hP3
  clear hP3
  go_upto_block 1 with fail
  have hL0 : LstA P w.heap.size (w.heap.size + 1) S w (a + 1) (n + 1) [] ((w3.setCell ⟨P, 1, none⟩ (.int .i64 ((a + 1 : Nat) : Int))).alloc (.cells #[.int .i64 3, .string ⟨#[]⟩, .slice none 0 0] 37)) (.slice none 0 0) := by
    have e1 : (w3.setCell ⟨P, 1, none⟩ (.int .i64 ((a + 1 : Nat) : Int))).heap.size = w.heap.size + 1 := by rw [set_size]; exact HS3.out
    refine ⟨alloc_same (HP3.out.set (a + 1)), alloc_same (setCell_same HZ3.out (show w.heap.size ≠ P by omega)), ?_, World.ownsRow_nil _ _ _ _, (HK3.out.setB _).alloc _, fun x hx => by cases hx⟩
    rw [← e1]
    exact World.heap_alloc_new _ _
  have hs3 := HS3.out
  clear c0 c1 c2 f1 HP3 HK3 HZ3 HS3
  rw [hs3]
  obtain ⟨W0, hW0⟩ : ∃ W0, (w3.setCell ⟨P, 1, none⟩ (.int .i64 ((a + 1 : Nat) : Int))).alloc (.cells #[.int .i64 3, .string ⟨#[]⟩, .slice none 0 0] 37) = W0 := ⟨_, rfl⟩
  rw [hW0] at hL0
  rw [show (w3.setCell ⟨P, 1, none⟩ (.int .i64 ((a : Int) + 1))).alloc (.cells #[.int .i64 3, .string ⟨#[]⟩, .slice none 0 0] 37) = W0 from hW0]
  clear hW0 hs3
  obtain ⟨U, hU⟩ : ∃ U, w.heap.size + 1 = U := ⟨_, rfl⟩
  obtain ⟨R0, hR0⟩ : ∃ R0, w.heap.size = R0 := ⟨_, rfl⟩
  rw [hU] at hL0 ⊢
  rw [hR0] at hL0 hU hPl ⊢
  have hRU : R0 < U := by omega
  have hPU : P < U := by omega
  have hPR : P < R0 := hPl
  have HL0 := Lib.hid hL0
  have HRZ := Lib.hid hR0
  clear hL0 hR0 hU
  go_wp2_with fail
  go_loopg [6] (61 - (n + 1)) (fun g s6 wr => ∃ (k m f' : Nat) (items : List (ArgP × Value)) (v : Value), k ≤ S.length ∧ m ≤ 60 ∧ m + g = 61 ∧ s6 = .bool items.isEmpty ∧ items.length + (n + 1) ≤ m ∧ f' ≤ f ∧ 2 * (60 - m) + 2 ≤ f' ∧ Hid (LstA P R0 U S w k m items wr v) ∧ Hid (listF S f' d k m (items.map (·.1)) = R))
  case atStart => exact ⟨a + 1, n + 1, f, [], _, by omega, by omega, by omega, rfl, by simp, Nat.le_refl _, by omega, HL0, HR⟩
  case round =>
    clear HL0 HR
    obtain ⟨k, m, f', items, v, hkl, hml, hmg, rfl, hil, hff, hfu', HL, HF⟩ := hrel
    obtain ⟨f', rfl⟩ : ∃ f2, f' = f2 + 1 := ⟨f' - 1, by omega⟩
    obtain ⟨va, vc, rfl⟩ := owns_val HL.out.own
    obtain ⟨fb, hfb⟩ : ∃ fb, items.isEmpty = fb := ⟨_, rfl⟩
    rw [hfb]
    have hHL := HL.out
    obtain ⟨c0, c1, c2⟩ := three_cells hHL.pars
    obtain ⟨b0, b1, b2⟩ := three_cells hHL.blk
    have f1 := Lib.frozen_of_heap hHL.pars 1
    have hUP : U ≠ P := by omega
    have cE1 := fun W (h : ParsW W P S k m) => cE W k m h
    by_cases hc : (bodyL S)[k]? = some 41
    · have HX : Hid (R = .ok (.mk 3 [] (items.map (·.1)), k + 1, m)) := Lib.hid (by rw [← HF.out, list_ok hc])
      obtain ⟨hl, hc'⟩ := bodyL_get hc
      rw [decide_eq_false (by omega)] at cE1
      have hkz : (k : Int) < (S.length : Int) := by omega
      have hx : ∀ h, (⟨S.toArray⟩ : ByteArray)[k]'h = 41 := byte_at hc'
      have hpz : fb = false → (0 : Int) < (items.length : Int) ∧ 0 < items.length := fun h => by
        rw [h] at hfb
        cases items with
        | nil => cases hfb
        | cons x r => exact ⟨by rw [List.length_cons]; omega, Nat.succ_pos _⟩
      clear hc hc' HF
      have HFB := Lib.hid hfb
      clear hfb
      cases fb with
      | true =>
        clear hpz HFB
        as_aux_lemma =>
        have hPp := hHL.pars
        go_wp2_with fail
        go_quiet ((go_at_call 16; exact Calls.quiet_of (cE1 _ hPp)))
        have hL4 := hHL.drewN hPU nq
        generalize wr.drewN nq = w4 at hL4 ⊢
        clear hHL hPp c0 c1 c2 b0 b1 b2 f1
        obtain ⟨c0, c1, c2⟩ := three_cells hL4.pars
        have f1 := Lib.frozen_of_heap hL4.pars 1
        go_upto_region 18 with fail
        have hL5 := hL4.step hPU (k + 1)
        have hw5 : w4.setCell ⟨P, 1, none⟩ (.int .i64 ((k + 1 : Nat) : Int)) = w4.setCell ⟨P, 1, none⟩ (.int .i64 ((k : Int) + 1)) := rfl
        rw [hw5] at hL5
        generalize w4.setCell ⟨P, 1, none⟩ (.int .i64 ((k : Int) + 1)) = w5 at hL5 ⊢
        clear hL4 hw5 c0 c1 c2 f1
        obtain ⟨x0, x1, x2⟩ := three_cells hL5.blk
        obtain ⟨r0, r1, r2⟩ := three_cells hL5.res
        have fz := Lib.frozen_of_heap hL5.res
        have HL5 := Lib.hid hL5
        clear hL5
        go_wp2_with fail
        rw [HX.out]
        exact bodyPost_ret (results_cell_row (P := Tryz.prog) rfl _ _ R0 _ _ _ _ rfl (set_three HL5.out.res _ _ _) Tryz.underlying37 rfl arg_size) rfl (HL5.out.done hPR hRU HRZ.out.symm)
      | false =>
        obtain ⟨hp1, hp2⟩ := hpz rfl
        have hp3 : decide ((0 : Int) < (items.length : Int)) = true := decide_eq_true hp1
        clear hpz HFB
        as_aux_lemma =>
        have hPp := hHL.pars
        go_wp2_with fail
        go_quiet ((go_at_call 16; exact Calls.quiet_of (cE1 _ hPp)))
        have hL4 := hHL.drewN hPU nq
        generalize wr.drewN nq = w4 at hL4 ⊢
        clear hHL hPp c0 c1 c2 b0 b1 b2 f1
        obtain ⟨c0, c1, c2⟩ := three_cells hL4.pars
        have f1 := Lib.frozen_of_heap hL4.pars 1
        go_upto_region 18 with fail
        have hL5 := hL4.step hPU (k + 1)
        have hw5 : w4.setCell ⟨P, 1, none⟩ (.int .i64 ((k + 1 : Nat) : Int)) = w4.setCell ⟨P, 1, none⟩ (.int .i64 ((k : Int) + 1)) := rfl
        rw [hw5] at hL5
        generalize w4.setCell ⟨P, 1, none⟩ (.int .i64 ((k : Int) + 1)) = w5 at hL5 ⊢
        clear hL4 hw5 c0 c1 c2 f1
        obtain ⟨x0, x1, x2⟩ := three_cells hL5.blk
        obtain ⟨r0, r1, r2⟩ := three_cells hL5.res
        have fz := Lib.frozen_of_heap hL5.res
        have HL5 := Lib.hid hL5
        clear hL5
        go_wp2_with fail
        rw [HX.out]
        exact bodyPost_ret (results_cell_row (P := Tryz.prog) rfl _ _ R0 _ _ _ _ rfl (set_three HL5.out.res _ _ _) Tryz.underlying37 rfl arg_size) rfl (HL5.out.done hPR hRU HRZ.out.symm)
    · have HFC := Lib.hid hc
      have HFB := Lib.hid hfb
      clear hfb
      go_upto_region 16 with fail
      go_cut [81] (fun s81 wx => s81 = .bool false ∧ LstA P R0 U S w k m items wx (.slice va items.length vc))
      case first =>
        cases hl : (bodyL S)[k]? with
        | none =>
          have hkl2 : S.length ≤ k + 2 := by
            have := List.getElem?_eq_none_iff.1 hl
            rw [bodyL_len] at this; omega
          rw [decide_eq_true hkl2] at cE1
          clear hc hl
          as_aux_lemma =>
          have hPp := hHL.pars
          go_quiet ((go_at_call 16; exact Calls.quiet_of (cE1 _ hPp)))
          go_wp2_with fail
          go_meet
          exact ⟨rfl, hHL.drewN hPU _⟩
        | some c =>
          obtain ⟨hkl2, hc'⟩ := bodyL_get hl
          rw [decide_eq_false (by omega)] at cE1
          have hkz : (k : Int) < (S.length : Int) := by omega
          have hx : ∀ h, (⟨S.toArray⟩ : ByteArray)[k]'h = c := byte_at hc'
          obtain ⟨e41, n41⟩ : ((c.toNat : Int) == 41) = false ∧ ((c.toNat : Int) != 41) = true := byte_not (c := c) (n := 41) (by decide) (fun e => hc (by rw [hl, e]; rfl))
          clear hc hl hc'
          as_aux_lemma =>
          have hPp := hHL.pars
          go_quiet ((go_at_call 16; exact Calls.quiet_of (cE1 _ hPp)))
          go_wp2_with fail
          go_meet
          exact ⟨rfl, hHL.drewN hPU _⟩
      case rest =>
        obtain ⟨rfl, hL2⟩ := hcut
        clear hHL c0 c1 c2 b0 b1 b2 f1 HL cE1 hc
        go_upto_if 91 with fail
        go_cut [] (fun wx => ∃ b0, b0 = (if items.map (·.1) = [] then k else k + 1) ∧ b0 ≤ S.length ∧ (items.map (·.1) = [] ∨ blankF S k = true) ∧ ∃ wc, wx = wc ∧ LstA P R0 U S w b0 m items wc (.slice va items.length vc))
        case first =>
          cases fb with
          | true =>
            have hnil : items.map (·.1) = [] := by rw [List.isEmpty_iff.1 HFB.out]; rfl
            have HN := Lib.hid hnil
            clear hnil
            as_aux_lemma =>
            go_wp2_with fail
            go_meet
            exact ⟨k, by rw [if_pos HN.out], hkl, Or.inl HN.out, _, rfl, hL2⟩
          | false =>
            have hnil : items.map (·.1) ≠ [] := by
              intro e
              rw [List.map_eq_nil_iff] at e
              have h9 := HFB.out
              rw [e] at h9; cases h9
            have HN := Lib.hid hnil
            clear hnil
            by_cases hb : blankF S k = true
            · have cB := fun W (h : ParsW W P S k m) => blank_yes P k m S W h hS h2 hb
              have HB := Lib.hid hb
              have hk1 : k + 1 ≤ S.length := by
                have := (bodyL_get (of_decide_eq_true hb)).1
                omega
              clear hb
              as_aux_lemma =>
              have hPp := hL2.pars
              go_wp2_with (go_at_call 14; go_loud (((with_reducible refine (cB _ hPp).mono ?_); rintro e w4 ⟨rfl, h4, k4⟩)))
              go_meet
              exact ⟨k + 1, by rw [if_neg HN.out], hk1, Or.inr HB.out, _, rfl, hL2.call hPU k4 h4⟩
            · have hb : blankF S k = false := by simpa using hb
              have cB := fun W (h : ParsW W P S k m) => blank_no P k m S W h hS h2 hb
              have HX : Hid (R = .error (3, k)) := Lib.hid (by rw [← HF.out, list_bad HFC.out HN.out hb])
              clear hb HF
              as_aux_lemma =>
              have hPp := hL2.pars
              go_wp2_with (go_at_call 14; go_loud (((with_reducible refine (cB _ hPp).mono ?_); rintro e w4 h; obtain ⟨b, rfl, h1, h2, h3⟩ := h)))
              rw [HX.out]
              exact ⟨rfl, argR_err (FailsW.from ⟨b, rfl, h1, h2, h3⟩ hL2.kept)⟩
        case rest =>
          obtain ⟨b0, hb0, hbl, hbk, wc, hwx, hL3⟩ := hcut
          rw [hwx]
          clear hwx
          have hst := list_more (d := d) (f := f') (m := m) HFC.out hbk
          rw [← hb0] at hst
          rw [HF.out] at hst
          have hG3 := HG.out _ hL3.kept
          have cA := fun W (h : ParsW W P S b0 m) (hG : WireG W) => IH f' (by omega) b0 m W h hml hbl (by omega) hG
          clear hL2 HF HFC hbk hb0
          have hLd := hL3.call hPU (kept_below (Below.refl _ wc).drew) hL3.pars
          have hGd := hG3.below (Below.refl _ wc).drew
          have hPd := hLd.pars
          have hS0 : (fun _ : World => True) wc.drew := trivial
          have hwd : IntKind.i64.wrap ((d : Int) + 1) = (d : Int) + 1 := IntWalk.i64_in _ (by omega)
          have hS1 : (fun W : World => W.cell? ⟨U, 2, none⟩ = some (.slice va items.length vc)) wc.drew := (three_cells hLd.blk).2.2
          obtain ⟨i0, hi, hz0, hz1, hz2⟩ := info_parts arg_info
          have HST := Lib.hid hst
          have HLD := Lib.hid hLd
          clear hL3 hG3 hst hLd
          go_upto_region 21 with fail
          refine until_start (S := fun W => W.cell? ⟨U, 2, none⟩ = some (.slice va items.length vc)) (S0 := fun _ => True) (t := 9) (by kernel_rfl) ?_
          generalize wc.drew = wd at *
          refine until_take0 (i := 0) (v := ?v0) rfl (by kernel_rfl) (by kernel_rfl) (by kernel_rfl) (by rfl) (fun _ _ _ h => h) (Or.inl ⟨by rfl, ?y0⟩) hS0 (fun _ => hS1) ?r0
          case y0 => (intro W hSw; (try dsimp only at hSw); go_simp; try with_reducible rfl)
          try simp only [Act.put, List.setIfInBounds_toArray, List.set_cons_zero, List.set_cons_succ]
          refine until_take (i := 1) (v := ?v1) rfl (by kernel_rfl) (by kernel_rfl) (by kernel_rfl) (by kernel_rfl) (fun _ _ _ h => h) (Or.inl ⟨by rfl, ?y1⟩) hS0 hS1 ?r1
          case y1 => (intro W hSw; (try dsimp only at hSw); go_simp; try with_reducible rfl)
          try simp only [Act.put, List.setIfInBounds_toArray, List.set_cons_zero, List.set_cons_succ]
          refine until_take0 (i := 2) (v := ?v2) rfl (by kernel_rfl) (by kernel_rfl) (by kernel_rfl) (by rfl) (fun _ _ _ h => h) (Or.inl ⟨by rfl, ?y2⟩) hS0 (fun _ => hS1) ?r2
          case y2 => (intro W hSw; (try dsimp only at hSw); go_simp; try with_reducible rfl)
          try simp only [Act.put, List.setIfInBounds_toArray, List.set_cons_zero, List.set_cons_succ]
          refine until_take0 (i := 3) (v := ?v3) rfl (by kernel_rfl) (by kernel_rfl) (by kernel_rfl) (by rfl) (fun _ _ _ h => h) (Or.inl ⟨by rfl, ?y3⟩) hS0 (fun _ => hS1) ?r3
          case y3 => (intro W hSw; (try dsimp only at hSw); go_simp; try with_reducible rfl)
          try simp only [Act.put, List.setIfInBounds_toArray, List.set_cons_zero, List.set_cons_succ]
          refine until_take0 (i := 4) (v := ?v4) rfl (by kernel_rfl) (by kernel_rfl) (by kernel_rfl) (by rfl) (fun _ _ _ h => h) (Or.inl ⟨by rfl, ?y4⟩) hS0 (fun _ => hS1) ?r4
          case y4 => (intro W hSw; (try dsimp only at hSw); go_simp; try with_reducible rfl)
          try simp only [Act.put, List.setIfInBounds_toArray, List.set_cons_zero, List.set_cons_succ]
          have cAd := cA wd hPd hGd
          cases hr : argF S f' (d + 1) b0 m with
          | error ee =>
            obtain ⟨E, p⟩ := ee
            rw [hr] at cAd
            have HX : Hid (R = .error (E, p)) := Lib.hid (by have := HST.out; rw [hr] at this; exact this)
            clear HST hr
            refine until_step (i := 5) (by kernel_rfl) rfl (fun K hK => ?_)
            go_simp
            (with_reducible refine cAd.mono ?_)
            rintro e w4 h
            obtain ⟨b, rfl, h1, h2, h3⟩ : FailsW P E p wd e w4 := h
            go_wp2_with fail
            rw [HX.out]
            exact ⟨rfl, argR_err (FailsW.from ⟨b, rfl, h1, h2, h3⟩ HLD.out.kept)⟩
          | ok r =>
            obtain ⟨x, b', m'⟩ := r
            rw [hr] at cAd
            have hd5 : d + 1 ≤ 6 := by
              rcases Nat.lt_or_ge 6 (d + 1) with h' | h'
              · cases f' with
                | zero => rw [argF] at hr; cases hr
                | succ f' => rw [argF, if_pos (Or.inr h')] at hr; cases hr
              · exact h'
            obtain ⟨_, hm', hm60, _, _⟩ := (fit_read S f').1 _ _ _ _ _ _ hr (5 - d) (by omega)
            have hsz := sizeA_pos x
            have hb' := (pos_read S f').1 _ _ _ _ _ _ hr
            have HX : Hid (listF S f' d b' m' (items.map (·.1) ++ [x]) = R) := Lib.hid (by have := HST.out; rw [hr] at this; exact this.symm)
            clear HST hr
            refine until_step (i := 5) (by kernel_rfl) rfl (fun K hK => ?_)
            go_simp
            (with_reducible refine cAd.mono ?_)
            rintro e w4 h
            obtain ⟨vx, rfl, hrd, hP4, hk4⟩ : ∃ v, e = .returned (.agg #[.int .i64 (x.kind : Int), .string ⟨x.text.toArray⟩, v]) ∧ ReadsA w4 (fun j => wd.heap.size ≤ j) v x.list ∧ ParsW w4 P S b' m' ∧ Kept (fun k => k = P) wd w4 := h
            obtain ⟨xa, xc, rfl⟩ := readsA_slice hrd
            have hL4 := HLD.out.call hPU hk4 hP4
            have HL4 := Lib.hid hL4
            have HRD := Lib.hid hrd
            have hd2 := (three_cells hL4.blk).2.2
            have HD2 := Lib.hid hd2
            have HSD : Hid (U < wd.heap.size ∧ ∀ g, (Value.slice va items.length vc).ownBlock = some g → g < wd.heap.size) := Lib.hid ⟨(Array.getElem?_eq_some_iff.1 HLD.out.blk).1, fun g e => (HLD.out.own.lt g e).2⟩
            clear hL4 hrd hP4 hk4 cAd hS0 hS1 hd2
            go_wp2_with fail
            refine hK.out _ _ trivial (fun _ _ => HD2.out) ?_
            clear hK K
            try simp only [Act.put, List.setIfInBounds_toArray, List.set_cons_zero, List.set_cons_succ]
            have hBa := alloc_at (o := .cells #[.int .i64 (x.kind : Int), .string ⟨x.text.toArray⟩, .slice xa x.list.length xc] 37) HL4.out.blk
            have hoa := HL4.out.own.alloc (.cells #[.int .i64 (x.kind : Int), .string ⟨x.text.toArray⟩, .slice xa x.list.length xc] 37)
            have hN := World.news_of_block (World.heap_alloc_new w4 (.cells #[.int .i64 (x.kind : Int), .string ⟨x.text.toArray⟩, .slice xa x.list.length xc] 37))
            have hsa := alloc_size w4 (.cells #[.int .i64 (x.kind : Int), .string ⟨x.text.toArray⟩, .slice xa x.list.length xc] 37)
            have hU4 := (Array.getElem?_eq_some_iff.1 HL4.out.blk).1
            have hba : U + 1 ≤ (w4.alloc (.cells #[.int .i64 (x.kind : Int), .string ⟨x.text.toArray⟩, .slice xa x.list.length xc] 37)).heap.size := by rw [hsa]; omega
            have HBA := Lib.hid hBa; have HOA := Lib.hid hoa; have HN := Lib.hid hN; have HSA := Lib.hid hsa
            clear hBa hoa hN hsa
            refine until_step (i := 6) (by kernel_rfl) rfl (fun K hK => ?_)
            go_simp
            refine hK.out _ _ trivial (fun _ _ => (three_cells HBA.out).2.2) ?_
            clear hK K
            try simp only [Act.put, List.setIfInBounds_toArray, List.set_cons_zero, List.set_cons_succ]
            refine until_step (i := 7) (by kernel_rfl) rfl (fun K hK => ?_)
            refine step_append_lies _ (by rfl) (.tmp 95) (.tmp 100) 23 (by rfl) (U + 1) 37 i0 _ 3 48 Tryz.underlying23 hi hz0 hz1 hz2 (by rfl) (by omega) (.slice va items.length vc) items.length (cellsA items) (by rfl) HOA.out ⟨w4.heap.size, 0, none⟩ 1 1 [.int .i64 (x.kind : Int), .string ⟨x.text.toArray⟩, .slice xa x.list.length xc] (by rfl) (by rfl) HN.out (by intro u hu; simp only [List.mem_cons, List.not_mem_nil, or_false] at hu; rcases hu with rfl | rfl | rfl <;> rfl) (by omega) (by unfold maxLen; omega) (by omega) hba (w4.heap.size + 1) HSA.out ?_
            intro g2 cap2 w6 ho6 hg6 hat6 hl6
            have hU6 : w6.heap[U]? = some (.cells #[.int .i64 3, .string ⟨#[]⟩, .slice va items.length vc] 37 (0, 0)) := (hg6.block U (by rw [HSA.out]; omega) (fun e => by have := (HL4.out.own.lt U e.symm).1; omega)).trans HBA.out
            have hL7 := HL4.out.push hPR hRU HRZ.out.symm x (.slice xa x.list.length xc) wd.heap.size HSD.out.1 HSD.out.2 HRD.out ho6 hg6 hat6
            have f6 : w6.frozen? ⟨U, 2, none⟩ = false := Lib.frozen_of_heap hU6 2
            have d6 := (three_cells hU6).2.2
            have HL7 := Lib.hid hL7
            have HU6 := Lib.hid hU6
            clear hL7 ho6 hg6 hat6 hl6 HOA HN HBA hba hU6
            refine hK.out _ _ trivial (fun _ _ => (three_cells HU6.out).2.2) ?_
            clear hK K
            try simp only [Act.put, List.setIfInBounds_toArray, List.set_cons_zero, List.set_cons_succ]
            refine until_step (i := 8) (by kernel_rfl) rfl (fun K hK => ?_)
            go_simp
            refine hK.out _ _ trivial (fun _ _ => (three_cells HU6.out).2.2) ?_
            clear hK K
            try simp only [Act.put, List.setIfInBounds_toArray, List.set_cons_zero, List.set_cons_succ]
            refine until_step (i := 9) (by kernel_rfl) rfl (fun K hK => ?_)
            go_simp
            refine hK.out _ _ trivial (fun h _ => absurd rfl h) ?_
            clear hK K
            try simp only [Act.put, List.setIfInBounds_toArray, List.set_cons_zero, List.set_cons_succ]
            refine until_done (by kernel_rfl) ?_ _
            go_wp2_with fail
            go_roundg (61 - m')
            case measure => omega
            case rel =>
              have hlen : (items ++ [(x, Value.slice xa x.list.length xc)]).length = items.length + 1 := by simp
              refine ⟨b', m', f', items ++ [(x, .slice xa x.list.length xc)], _, hb', hm60, by omega, ?_, by omega, by omega, by omega, HL7, ?_⟩
              · cases items <;> rfl
              · have := HX.out
                show _ = _
                rw [List.map_append]; exact this
end Go.Proofs.YtbfndlmihijcgaaGreatDoor
