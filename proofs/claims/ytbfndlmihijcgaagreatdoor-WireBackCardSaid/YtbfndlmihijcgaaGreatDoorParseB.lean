/- The walks over wire's parser: what stands in quotes. Condition: none. -/
import Derived.Test.YtbfndlmihijcgaaGreatDoorParseA
import Derived.Test.YtbfndlmihijcgaaGreatDoorBuilder
namespace Go.Proofs.YtbfndlmihijcgaaGreatDoor
open Go.RowKit Go.Shelf

theorem body_cons {S : List UInt8} {k : Nat} {c : UInt8} (h : (bodyL S)[k]? = some c) : (bodyL S).drop k = c :: (bodyL S).drop (k + 1) := by
  obtain ⟨hk, rfl⟩ := List.getElem?_eq_some_iff.1 h
  exact List.drop_eq_getElem_cons hk
def addF (acc : List UInt8) (r : Except Nat (List UInt8 × Nat)) : Except Nat (List UInt8 × Nat) := match r with | .ok (t, j) => .ok (acc ++ t, j) | .error e => .error e
theorem addF_nil (r : Except Nat (List UInt8 × Nat)) : addF [] r = r := by
  cases r with
  | error e => rfl
  | ok p => rfl
theorem addF_snoc (acc : List UInt8) (d : UInt8) (r : Except Nat (List UInt8 × Nat)) : addF (acc ++ [d]) r = addF acc (match r with | .ok (t, j) => .ok (d :: t, j) | .error e => .error e) := by
  cases r with
  | error e => rfl
  | ok p => obtain ⟨t, j⟩ := p; simp [addF]
theorem quo_none {S : List UInt8} {k : Nat} (h : (bodyL S)[k]? = none) (i : Nat) : quoL ((bodyL S).drop k) i = .error i := by
  rw [List.drop_eq_nil_of_le (List.getElem?_eq_none_iff.1 h), quoL]
theorem quo_end {S : List UInt8} {k : Nat} (h : (bodyL S)[k]? = some 34) : quoL ((bodyL S).drop k) k = .ok ([], k + 1) := by rw [body_cons h, quoL]
theorem quo_last {S : List UInt8} {k : Nat} (h : (bodyL S)[k]? = some 92) (h2 : (bodyL S)[k + 1]? = none) : quoL ((bodyL S).drop k) k = .error (k + 1) := by
  rw [body_cons h, List.drop_eq_nil_of_le (List.getElem?_eq_none_iff.1 h2), quoL]
theorem quo_yes {S : List UInt8} {k : Nat} {d : UInt8} (h : (bodyL S)[k]? = some 92) (h2 : (bodyL S)[k + 1]? = some d) (hd : d = 34 ∨ d = 92) : quoL ((bodyL S).drop k) k = match quoL ((bodyL S).drop (k + 2)) (k + 2) with | .ok (t, j) => .ok (d :: t, j) | .error e => .error e := by
  rw [body_cons h, body_cons h2, quoL, if_pos hd]; rfl
theorem quo_no {S : List UInt8} {k : Nat} {d : UInt8} (h : (bodyL S)[k]? = some 92) (h2 : (bodyL S)[k + 1]? = some d) (hd : ¬(d = 34 ∨ d = 92)) : quoL ((bodyL S).drop k) k = .error (k + 1) := by
  rw [body_cons h, body_cons h2, quoL, if_neg hd]
theorem quo_bad {S : List UInt8} {k : Nat} {c : UInt8} (h : (bodyL S)[k]? = some c) (h1 : c ≠ 34) (h2 : c ≠ 92) (hd : c = 13 ∨ c = 10 ∨ c = 0) : quoL ((bodyL S).drop k) k = .error k := by
  rw [body_cons h, quoL, if_pos hd]
  all_goals first | exact h1 | exact (fun e _ => h2 e) | exact (fun d r e _ => h2 e) | rfl
theorem quo_more {S : List UInt8} {k : Nat} {c : UInt8} (h : (bodyL S)[k]? = some c) (h1 : c ≠ 34) (h2 : c ≠ 92) (hd : ¬(c = 13 ∨ c = 10 ∨ c = 0)) : quoL ((bodyL S).drop k) k = match quoL ((bodyL S).drop (k + 1)) (k + 1) with | .ok (t, j) => .ok (c :: t, j) | .error e => .error e := by
  rw [body_cons h, quoL, if_neg hd]
  all_goals first | exact h1 | exact (fun e _ => h2 e) | exact (fun d r e _ => h2 e) | rfl
theorem Kept.next {T : Nat → Prop} {w w1 w2 : World} (h : Kept T w w1) (hb : Below w.heap.size w1 w2) : Kept T w w2 := ⟨hb.os.trans h.os, hb.tape.trans h.tape, hb.output.trans h.output, Nat.le_trans h.size hb.size, fun k hk hs => (hb.block k hk).trans (h.block k hk hs)⟩
theorem bld_setP {w : World} {P a n N : Nat} {S : List UInt8} {bs : List Value} (h : Lib.IsBuilderF 61 5 N N bs w) (hP : ParsW w P S a n) (hN : P < N) (i : Nat) (u : Value) : Lib.IsBuilderF 61 5 N N bs (w.setCell ⟨P, i, none⟩ u) := by
  refine bld_same h fun k o hk hor => setCell_same hk ?_
  rintro rfl
  rcases hor with rfl | ⟨c, fz, rfl⟩
  · exact Nat.lt_irrefl _ hN
  · unfold ParsW at hP
    rw [hk] at hP
    have := congrArg (fun o : Option Obj => match o with | some (.cells _ t _) => t | _ => 0) hP
    revert this
    show 5 = 43 → False
    decide
theorem bld_drewN {w : World} {N : Nat} {bs : List Value} (h : Lib.IsBuilderF 61 5 N N bs w) (q : Nat) : Lib.IsBuilderF 61 5 N N bs (w.drewN q) := bld_same h fun k o hk _ => hk
theorem byte_not {c : UInt8} {n : Nat} (hn : n < 256) (h : c ≠ UInt8.ofNat n) : ((c.toNat : Int) == (n : Int)) = false ∧ ((c.toNat : Int) != (n : Int)) = true := by
  have : ((c.toNat : Int) == (n : Int)) = false := by rw [byte_eq c n hn, decide_eq_false h]
  exact ⟨this, by rw [bne, this]; rfl⟩
theorem byte_yes {c : UInt8} {n : Nat} (hn : n < 256) (h : c = UInt8.ofNat n) : ((c.toNat : Int) == (n : Int)) = true ∧ ((c.toNat : Int) != (n : Int)) = false := by
  have : ((c.toNat : Int) == (n : Int)) = true := by rw [byte_eq c n hn, decide_eq_true h]
  exact ⟨this, by rw [bne, this]; rfl⟩

theorem bld_byte (N : Nat) (acc : List UInt8) (c : UInt8) (W : World) (h : Lib.IsBuilderF 61 5 N N (Lib.byteCells acc) W) (hl : acc.length ≤ 1000000) (hN : N ≤ W.heap.size) :
    Calls Tryz.prog 25 #[.pointer (some ⟨N, 0, none⟩), .int .u8 (c.toNat : Int)] W fun e w' => e = .returned .nilIface ∧ Lib.IsBuilderF 61 5 N N (Lib.byteCells (acc ++ [c])) w' ∧ Below N W w' := by
  refine (bld_WriteByte N N (Lib.byteCells acc) (c.toNat : Int) W h (by rw [Lib.byteCells_length]; omega) hN).mono ?_
  rintro e w' ⟨rfl, h1, hb1, _⟩
  refine ⟨rfl, Or.inr ?_, hb1⟩
  have e : Lib.byteCells (acc ++ [c]) = Lib.byteCells acc ++ [.int .u8 (c.toNat : Int)] := by simp [Lib.byteCells]
  rw [e]; exact h1
/-- what quoted brings: the text, or a failure -/
def QuoR (P a n : Nat) (S : List UInt8) (w : World) (e : Ending) (w' : World) : Prop := match quoL ((bodyL S).drop (a + 1)) (a + 1) with
  | .error p => FailsW P 3 p w e w'
  | .ok (t, b) => e = .returned (.string ⟨t.toArray⟩) ∧ ParsW w' P S b n ∧ Kept (fun k => k = P) w w'
theorem quoR_no {P a n p : Nat} {S : List UInt8} {w : World} {e : Ending} {w' : World} (h : quoL ((bodyL S).drop (a + 1)) (a + 1) = .error p) (hf : FailsW P 3 p w e w') : QuoR P a n S w e w' := by unfold QuoR; rw [h]; exact hf
theorem quoR_yes {P a n b : Nat} {S t : List UInt8} {w : World} {e : Ending} {w' : World} (h : quoL ((bodyL S).drop (a + 1)) (a + 1) = .ok (t, b)) (he : e = .returned (.string ⟨t.toArray⟩)) (hP : ParsW w' P S b n) (hk : Kept (fun k => k = P) w w') : QuoR P a n S w e w' := by unfold QuoR; rw [h]; exact ⟨he, hP, hk⟩

set_option maxRecDepth 100000 in
set_option maxHeartbeats 8000000 in
theorem quoted_any (P a n : Nat) (S : List UInt8) (w : World) (hP : ParsW w P S a n) (hS : S.length ≤ 1000000) (h2 : 2 ≤ S.length) (ha : a + 2 < S.length) :
    Calls Tryz.prog 29 #[.pointer (some ⟨P, 0, none⟩)] w (QuoR P a n S w) := by
  have hts := w_size S
  have hPl := hP.lt
  obtain ⟨c0, c1, c2⟩ := three_cells hP
  have f1 := Lib.frozen_of_heap hP 1
  have hI1 := Lib.IsBuilderF.of (Lib.fresh_isBuilder 61 5 (w.setCell ⟨P, 1, none⟩ (.int .i64 ((a + 1 : Nat) : Int))))
  rw [set_size] at hI1
  have hP1 : ParsW ((w.setCell ⟨P, 1, none⟩ (.int .i64 ((a + 1 : Nat) : Int))).alloc (.cells #[.pointer none, .slice none 0 0] 61)) P S (a + 1) n := alloc_same (hP.set (a + 1))
  have hK1 : Kept (fun k => k = P) w ((w.setCell ⟨P, 1, none⟩ (.int .i64 ((a + 1 : Nat) : Int))).alloc (.cells #[.pointer none, .slice none 0 0] 61)) := ((Kept.refl _ w).setB _).alloc _
  have hz1 : w.heap.size + 1 ≤ ((w.setCell ⟨P, 1, none⟩ (.int .i64 ((a + 1 : Nat) : Int))).alloc (.cells #[.pointer none, .slice none 0 0] 61)).heap.size := by rw [alloc_size, set_size]; exact Nat.le_refl _
  have HP1 := Lib.hid hP1
  have HI1 := Lib.hid hI1
  have HK1 := Lib.hid hK1
  have HZ := Lib.hid hz1
  have cE := fun W k (h : ParsW W P S k n) => end_any P k n S W h hS h2
  have cF : ∀ W k, ParsW W P S k n → Calls Tryz.prog 12 #[.pointer (some ⟨P, 0, none⟩), .int .i64 3] W (FailsW P 3 k W) := fun W k h => fail_any P k n 3 S W h
  clear hz1 hP hP1 hI1 hK1
  go_enter Tryz.func29, Tryz.ntmps29
  go_wp2_with fail
  clear c0 c1 c2 f1
  go_loopg [] (S.length + 1 - (a + 1)) (fun g wr => ∃ (k : Nat) (acc : List UInt8), k ≤ S.length ∧ k + g = S.length + 1 ∧ ParsW wr P S k n ∧ Lib.IsBuilderF 61 5 w.heap.size w.heap.size (Lib.byteCells acc) wr ∧ acc.length ≤ k ∧ Kept (fun k => k = P) w wr ∧ w.heap.size + 1 ≤ wr.heap.size ∧ Hid (quoL ((bodyL S).drop (a + 1)) (a + 1) = addF acc (quoL ((bodyL S).drop k) k)))
  case atStart => exact ⟨a + 1, [], by omega, by omega, HP1.out, HI1.out, Nat.zero_le _, HK1.out, HZ.out, Lib.hid (addF_nil _).symm⟩
  case round =>
    clear HP1 HI1 HK1 HZ
    obtain ⟨k, acc, hkl, hkg, hPk, hI, hacc, hK, hz, HQ⟩ := hrel
    obtain ⟨c0, c1, c2⟩ := three_cells hPk
    have f1 := Lib.frozen_of_heap hPk 1
    cases hc : (bodyL S)[k]? with
    | none =>
      have hl : S.length ≤ k + 2 := by
        have := List.getElem?_eq_none_iff.1 hc
        rw [bodyL_len] at this; omega
      have cE1 := fun W (h : ParsW W P S k n) => cE W k h
      rw [decide_eq_true hl] at cE1
      have HR : Hid (quoL ((bodyL S).drop (a + 1)) (a + 1) = .error k) := Lib.hid (by rw [HQ.out, quo_none hc]; rfl)
      clear cE hc
      as_aux_lemma =>
      go_wp2_with (first
        | (go_at_call 16; ((with_reducible refine (cE1 _ hPk).mono ?_); rintro e w1 ⟨rfl, q, rfl⟩))
        | (go_at_call 12; ((with_reducible refine (cF _ _ (hPk.drewN _)).mono ?_); rintro e w1 h; obtain ⟨b, rfl, h1, h2, h3⟩ := h)))
      exact ⟨rfl, quoR_no HR.out (FailsW.from ⟨b, rfl, h1, h2, h3⟩ (kept_drewN hK _))⟩
    | some c =>
      obtain ⟨hl, hc'⟩ := bodyL_get hc
      have cE1 := fun W (h : ParsW W P S k n) => cE W k h
      rw [decide_eq_false (by omega)] at cE1
      have hkl2 : (k : Int) < (S.length : Int) := by omega
      have hx : ∀ h, (⟨S.toArray⟩ : ByteArray)[k]'h = c := byte_at hc'
      obtain ⟨g', rfl⟩ : ∃ g', gk = g' + 1 := ⟨gk - 1, by omega⟩
      by_cases h34 : c = 34
      · obtain ⟨e34, n34⟩ : ((c.toNat : Int) == 34) = true ∧ ((c.toNat : Int) != 34) = false := byte_yes (c := c) (n := 34) (by decide) h34
        have HR : Hid (quoL ((bodyL S).drop (a + 1)) (a + 1) = .ok (acc, k + 1)) := Lib.hid (by rw [HQ.out, quo_end (by rw [hc, h34])]; simp [addF])
        have cT := fun W h1 h2 => Tryz.Builder_String_any_k w.heap.size w.heap.size acc W h1 h2
        have HPL := Lib.hid hPl
        have HZD : Hid (∀ p i u, w.heap.size ≤ ((wr.drewN p).setCell ⟨P, i, none⟩ u).heap.size) := Lib.hid (fun p i u => by rw [set_size]; exact Nat.le_of_succ_le hz)
        clear cE hc hc' HQ h34
        as_aux_lemma =>
        go_wp2_with (first
          | (go_at_call 16; ((with_reducible refine (cE1 _ hPk).mono ?_); rintro e w1 ⟨rfl, q, rfl⟩)))
        go_quiet (fail)
        go_wp2_with (go_at_call 26; go_loud (((with_reducible refine (cT _ (bld_setP (bld_drewN hI _) (hPk.drewN _) HPL.out _ _) (HZD.out _ _ _)).mono ?_); rintro e w2 ⟨rfl, hI2, hb2, _⟩)))
        go_ret
        exact quoR_yes HR.out rfl ((hb2.block P HPL.out).trans ((hPk.drewN _).set (k + 1))) (((kept_drewN hK _).setB _).next hb2)
      · obtain ⟨e34, n34⟩ : ((c.toNat : Int) == 34) = false ∧ ((c.toNat : Int) != 34) = true := byte_not (c := c) (n := 34) (by decide) h34
        by_cases h92 : c = 92
        · obtain ⟨e92, n92⟩ : ((c.toNat : Int) == 92) = true ∧ ((c.toNat : Int) != 92) = false := byte_yes (c := c) (n := 92) (by decide) h92
          have cE2 := fun W (h : ParsW W P S (k + 1) n) => cE W (k + 1) h
          cases hd : (bodyL S)[k + 1]? with
          | none =>
            have hl2 : S.length ≤ k + 1 + 2 := by
              have := List.getElem?_eq_none_iff.1 hd
              rw [bodyL_len] at this; omega
            rw [decide_eq_true hl2] at cE2
            have HR : Hid (quoL ((bodyL S).drop (a + 1)) (a + 1) = .error (k + 1)) := Lib.hid (by rw [HQ.out, quo_last (by rw [hc, h92]) hd]; rfl)
            clear cE hc hc' HQ h92 h34 hd
            as_aux_lemma =>
            go_wp2_with (first
              | (go_at_call 16; ((with_reducible refine (cE1 _ hPk).mono ?_); rintro e w1 ⟨rfl, q, rfl⟩)))
            go_quiet (fail)
            go_wp2_with fail
            have hP2 : ParsW ((wr.drewN (q + nq)).setCell ⟨P, 1, none⟩ (.int .i64 ((k : Int) + 1))) P S (k + 1) n := (hPk.drewN _).set (k + 1)
            have hI2 := bld_setP (bld_drewN hI (q + nq)) (hPk.drewN (q + nq)) hPl 1 (.int .i64 ((k : Int) + 1))
            have hK2 : Kept (fun k => k = P) w ((wr.drewN (q + nq)).setCell ⟨P, 1, none⟩ (.int .i64 ((k : Int) + 1))) := (kept_drewN hK _).setB _
            have hz2 : w.heap.size + 1 ≤ ((wr.drewN (q + nq)).setCell ⟨P, 1, none⟩ (.int .i64 ((k : Int) + 1))).heap.size := by rw [set_size]; exact hz
            generalize (wr.drewN (q + nq)).setCell ⟨P, 1, none⟩ (.int .i64 ((k : Int) + 1)) = w2 at hP2 hI2 hK2 hz2 ⊢
            clear hPk hI hK hz c0 c1 c2 f1
            obtain ⟨c0, c1, c2⟩ := three_cells hP2
            have f1 := Lib.frozen_of_heap hP2 1
            go_quiet ((go_at_call 16; exact Calls.quiet_of (cE2 _ hP2)))
            go_wp2_with (go_at_call 12; ((with_reducible refine (cF _ _ (hP2.drewN _)).mono ?_); rintro e w1 h; obtain ⟨b, rfl, h1, h2, h3⟩ := h))
            exact ⟨rfl, quoR_no HR.out (FailsW.from ⟨b, rfl, h1, h2, h3⟩ (kept_drewN hK2 _))⟩
          | some d =>
            have hl2 := (bodyL_get hd).1
            rw [decide_eq_false (by omega)] at cE2
            have hkl3 : (k : Int) + 1 < (S.length : Int) := by omega
            have hx2 : ∀ h, (⟨S.toArray⟩ : ByteArray)[k + 1]'h = d := byte_at (bodyL_get hd).2
            by_cases hdd : d = 34 ∨ d = 92
            · have HQ2 : Hid (quoL ((bodyL S).drop (a + 1)) (a + 1) = addF (acc ++ [d]) (quoL ((bodyL S).drop (k + 2)) (k + 2))) := Lib.hid (by rw [HQ.out, quo_yes (by rw [hc, h92]) hd hdd, addF_snoc])
              have cW := fun W h1 h2 => bld_byte w.heap.size acc d W h1 (by omega) h2
              have hdd2 : ((d.toNat : Int) != 34) = false ∨ ((d.toNat : Int) != 34) = true ∧ ((d.toNat : Int) != 92) = false := by
                rcases hdd with h | h
                · exact Or.inl (byte_yes (c := d) (n := 34) (by decide) h).2
                · exact Or.inr ⟨(byte_not (c := d) (n := 34) (by decide) (by rw [h]; decide)).2, (byte_yes (c := d) (n := 92) (by decide) h).2⟩
              obtain ⟨g', rfl⟩ : ∃ g2, g' = g2 + 1 := ⟨g' - 1, by omega⟩
              have HPL := Lib.hid hPl
              clear cE hc hc' HQ h92 h34 hd hdd
              rcases hdd2 with n1 | ⟨n1, n2⟩
              all_goals
                as_aux_lemma =>
                go_wp2_with (first
                  | (go_at_call 16; ((with_reducible refine (cE1 _ hPk).mono ?_); rintro e w1 ⟨rfl, q, rfl⟩)))
                go_quiet (fail)
                go_wp2_with fail
                have hP2 : ParsW ((wr.drewN (q + nq)).setCell ⟨P, 1, none⟩ (.int .i64 ((k : Int) + 1))) P S (k + 1) n := (hPk.drewN _).set (k + 1)
                have hI2 := bld_setP (bld_drewN hI (q + nq)) (hPk.drewN (q + nq)) HPL.out 1 (.int .i64 ((k : Int) + 1))
                have hK2 : Kept (fun k => k = P) w ((wr.drewN (q + nq)).setCell ⟨P, 1, none⟩ (.int .i64 ((k : Int) + 1))) := (kept_drewN hK _).setB _
                have hz2 : w.heap.size + 1 ≤ ((wr.drewN (q + nq)).setCell ⟨P, 1, none⟩ (.int .i64 ((k : Int) + 1))).heap.size := by rw [set_size]; exact hz
                generalize (wr.drewN (q + nq)).setCell ⟨P, 1, none⟩ (.int .i64 ((k : Int) + 1)) = w2 at hP2 hI2 hK2 hz2 ⊢
                clear hPk hI hK hz c0 c1 c2 f1
                obtain ⟨c0, c1, c2⟩ := three_cells hP2
                have f1 := Lib.frozen_of_heap hP2 1
                go_quiet ((go_at_call 16; exact Calls.quiet_of (cE2 _ hP2)))
                go_wp2_with fail
                go_quiet (fail)
                have hz3 : ∀ q, w.heap.size ≤ (w2.drewN q).heap.size := fun q => Nat.le_of_succ_le hz2
                have HZ3 := Lib.hid hz3
                clear hz3
                go_wp2_with (go_at_call 25; go_loud (((with_reducible refine (cW _ (bld_drewN hI2 _) (HZ3.out _)).mono ?_); rintro e w4 ⟨rfl, hI4, hb4⟩; have hP4 := (hb4.block P HPL.out).trans (hP2.drewN _); have hK4 := (kept_drewN hK2 _).next hb4; have hz4 := Nat.le_trans hz2 hb4.size; obtain ⟨d0, d1, d2⟩ := three_cells hP4; have f2 := Lib.frozen_of_heap hP4 1)))
                go_roundg g'
                case measure => omega
                case rel => exact ⟨k + 2, acc ++ [d], by omega, by omega, ParsW.set hP4 (k + 2), bld_setP hI4 hP4 HPL.out _ _, by simp; omega, hK4.setB _, by rw [set_size]; exact hz4, HQ2⟩
            · have n1 : ((d.toNat : Int) != 34) = true := (byte_not (c := d) (n := 34) (by decide) (fun h => hdd (Or.inl h))).2
              have n2 : ((d.toNat : Int) != 92) = true := (byte_not (c := d) (n := 92) (by decide) (fun h => hdd (Or.inr h))).2
              have HR : Hid (quoL ((bodyL S).drop (a + 1)) (a + 1) = .error (k + 1)) := Lib.hid (by rw [HQ.out, quo_no (by rw [hc, h92]) hd hdd]; rfl)
              clear cE hc hc' HQ h92 h34 hd hdd
              as_aux_lemma =>
              go_wp2_with (first
                | (go_at_call 16; ((with_reducible refine (cE1 _ hPk).mono ?_); rintro e w1 ⟨rfl, q, rfl⟩)))
              go_quiet (fail)
              go_wp2_with fail
              have hP2 : ParsW ((wr.drewN (q + nq)).setCell ⟨P, 1, none⟩ (.int .i64 ((k : Int) + 1))) P S (k + 1) n := (hPk.drewN _).set (k + 1)
              have hI2 := bld_setP (bld_drewN hI (q + nq)) (hPk.drewN (q + nq)) hPl 1 (.int .i64 ((k : Int) + 1))
              have hK2 : Kept (fun k => k = P) w ((wr.drewN (q + nq)).setCell ⟨P, 1, none⟩ (.int .i64 ((k : Int) + 1))) := (kept_drewN hK _).setB _
              have hz2 : w.heap.size + 1 ≤ ((wr.drewN (q + nq)).setCell ⟨P, 1, none⟩ (.int .i64 ((k : Int) + 1))).heap.size := by rw [set_size]; exact hz
              generalize (wr.drewN (q + nq)).setCell ⟨P, 1, none⟩ (.int .i64 ((k : Int) + 1)) = w2 at hP2 hI2 hK2 hz2 ⊢
              clear hPk hI hK hz c0 c1 c2 f1
              obtain ⟨c0, c1, c2⟩ := three_cells hP2
              have f1 := Lib.frozen_of_heap hP2 1
              go_quiet ((go_at_call 16; exact Calls.quiet_of (cE2 _ hP2)))
              go_wp2_with (go_at_call 12; ((with_reducible refine (cF _ _ (hP2.drewN _)).mono ?_); rintro e w1 h; obtain ⟨b, rfl, h1, h2, h3⟩ := h))
              exact ⟨rfl, quoR_no HR.out (FailsW.from ⟨b, rfl, h1, h2, h3⟩ (kept_drewN hK2 _))⟩
        · obtain ⟨e92, n92⟩ : ((c.toNat : Int) == 92) = false ∧ ((c.toNat : Int) != 92) = true := byte_not (c := c) (n := 92) (by decide) h92
          by_cases hbad : c = 13 ∨ c = 10 ∨ c = 0
          · have HR : Hid (quoL ((bodyL S).drop (a + 1)) (a + 1) = .error k) := Lib.hid (by rw [HQ.out, quo_bad hc h34 h92 hbad]; rfl)
            have hb2 : ((c.toNat : Int) == 13) = true ∨ ((c.toNat : Int) == 13) = false ∧ (((c.toNat : Int) == 10) = true ∨ ((c.toNat : Int) == 10) = false ∧ ((c.toNat : Int) == 0) = true) := by
              rcases hbad with h | h | h
              · exact Or.inl (byte_yes (c := c) (n := 13) (by decide) h).1
              · exact Or.inr ⟨(byte_not (c := c) (n := 13) (by decide) (by rw [h]; decide)).1, Or.inl (byte_yes (c := c) (n := 10) (by decide) h).1⟩
              · exact Or.inr ⟨(byte_not (c := c) (n := 13) (by decide) (by rw [h]; decide)).1, Or.inr ⟨(byte_not (c := c) (n := 10) (by decide) (by rw [h]; decide)).1, (byte_yes (c := c) (n := 0) (by decide) h).1⟩⟩
            clear cE hc hc' HQ h92 h34 hbad
            rcases hb2 with b1 | ⟨b1, b2 | ⟨b2, b3⟩⟩
            all_goals
              as_aux_lemma =>
              go_wp2_with (first
                | (go_at_call 16; ((with_reducible refine (cE1 _ hPk).mono ?_); rintro e w1 ⟨rfl, q, rfl⟩)))
              go_quiet (fail)
              go_wp2_with (go_at_call 12; ((with_reducible refine (cF _ _ (hPk.drewN _)).mono ?_); rintro e w1 h; obtain ⟨b, rfl, h1, h2, h3⟩ := h))
              exact ⟨rfl, quoR_no HR.out (FailsW.from ⟨b, rfl, h1, h2, h3⟩ (kept_drewN hK _))⟩
          · have b1 : ((c.toNat : Int) == 13) = false := (byte_not (c := c) (n := 13) (by decide) (fun h => hbad (Or.inl h))).1
            have b2 : ((c.toNat : Int) == 10) = false := (byte_not (c := c) (n := 10) (by decide) (fun h => hbad (Or.inr (Or.inl h)))).1
            have b3 : ((c.toNat : Int) == 0) = false := (byte_not (c := c) (n := 0) (by decide) (fun h => hbad (Or.inr (Or.inr h)))).1
            have HQ2 : Hid (quoL ((bodyL S).drop (a + 1)) (a + 1) = addF (acc ++ [c]) (quoL ((bodyL S).drop (k + 1)) (k + 1))) := Lib.hid (by rw [HQ.out, quo_more hc h34 h92 hbad, addF_snoc])
            have cW := fun W h1 h2 => bld_byte w.heap.size acc c W h1 (by omega) h2
            have HPL := Lib.hid hPl
            have hz3 : ∀ q, w.heap.size ≤ (wr.drewN q).heap.size := fun q => Nat.le_of_succ_le hz
            have HZ3 := Lib.hid hz3
            clear cE hc hc' HQ h92 h34 hbad hz3
            as_aux_lemma =>
            go_wp2_with (first
              | (go_at_call 16; ((with_reducible refine (cE1 _ hPk).mono ?_); rintro e w1 ⟨rfl, q, rfl⟩)))
            go_quiet (fail)
            go_wp2_with (go_at_call 25; go_loud (((with_reducible refine (cW _ (bld_drewN hI _) (HZ3.out _)).mono ?_); rintro e w4 ⟨rfl, hI4, hb4⟩; have hP4 := (hb4.block P HPL.out).trans (hPk.drewN _); have hK4 := (kept_drewN hK _).next hb4; have hz4 := Nat.le_trans hz hb4.size; obtain ⟨d0, d1, d2⟩ := three_cells hP4; have f2 := Lib.frozen_of_heap hP4 1)))
            go_roundg g'
            case measure => omega
            case rel => exact ⟨k + 1, acc ++ [c], by omega, by omega, ParsW.set hP4 (k + 1), bld_setP hI4 hP4 HPL.out _ _, by simp; omega, hK4.setB _, by rw [set_size]; exact hz4, HQ2⟩
end Go.Proofs.YtbfndlmihijcgaaGreatDoor
