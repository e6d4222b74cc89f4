/- The walks over wire's parser: bytes behind their number. Conditions: strconv's table of powers and its two errors, and bytealg.MaxLen, lie as the program's text lays them. -/
import Derived.Test.YtbfndlmihijcgaaGreatDoorParseA
import Derived.StillTailTactics
namespace Go.Proofs.YtbfndlmihijcgaaGreatDoor
open Go.RowKit Go.Shelf

/-- what bytes brings: the bytes, or a failure -/
def BytR (P a n : Nat) (S : List UInt8) (w : World) (e : Ending) (w' : World) : Prop := match bytF S a with
  | none => FailsW P 3 a w e w'
  | some (t, b) => e = .returned (.string ⟨t.toArray⟩) ∧ ParsW w' P S b n ∧ Kept (fun k => k = P) w w'
theorem bytR_no {P a n : Nat} {S : List UInt8} {w : World} {e : Ending} {w' : World} (h : bytF S a = none) (hf : FailsW P 3 a w e w') : BytR P a n S w e w' := by unfold BytR; rw [h]; exact hf
theorem bytR_yes {P a n b : Nat} {S t : List UInt8} {w : World} {e : Ending} {w' : World} (h : bytF S a = some (t, b)) (he : e = .returned (.string ⟨t.toArray⟩)) (hP : ParsW w' P S b n) (hk : Kept (fun k => k = P) w w') : BytR P a n S w e w' := by unfold BytR; rw [h]; exact ⟨he, hP, hk⟩
theorem byt_at {S : List UInt8} {a k : Nat} (h : Lib.index (S.drop a) [13, 10] = (k : Int)) (h2 : Lib.indexByte ((S.drop a).take k) 125 = (k : Int) - 1) : bytF S a = match litF ((S.drop a).take k) with
    | none => none
    | some n => if S.length < a + k + 2 + n.toNat then none else some ((S.drop (a + k + 2)).take n.toNat, a + k + 2 + n.toNat) := by
  unfold bytF
  rw [h, if_neg (by omega), Int.toNat_natCast, if_neg (by rw [h2]; simp)]
  rfl
set_option maxRecDepth 100000 in
set_option maxHeartbeats 8000000 in
theorem bytes_any (P a n : Nat) (S : List UInt8) (w : World) (hP : ParsW w P S a n) (hS : S.length ≤ 1000000) (h2 : 2 ≤ S.length) (ha : a + 2 < S.length) (hG : WireG w) :
    Calls Tryz.prog 30 #[.pointer (some ⟨P, 0, none⟩)] w (BytR P a n S w) := by
  have hts := w_size S
  obtain ⟨c0, c1, c2⟩ := three_cells hP
  have f1 := Lib.frozen_of_heap hP 1
  have cF : ∀ W k, ParsW W P S k n → Calls Tryz.prog 12 #[.pointer (some ⟨P, 0, none⟩), .int .i64 3] W (FailsW P 3 k W) := fun W k h => fail_any P k n 3 S W h
  have hx1 : (⟨S.toArray⟩ : ByteArray).extract a S.length = ⟨(S.drop a).toArray⟩ := by rw [w_part]; congr 2; rw [List.take_of_length_le (by simp)]
  have hdl : (S.drop a).length = S.length - a := by simp
  have cI := fun W hW => index_l (S.drop a) W (by omega) hW
  rw [← hx1] at cI
  have hroom := Lib.index_room (S.drop a) [13, 10]
  have hge := Lib.index_ge (S.drop a) [13, 10]
  have hbt : bytF S a = bytF S a := rfl
  obtain ⟨K, hK⟩ : ∃ K, Lib.index (S.drop a) [13, 10] = K := ⟨_, rfl⟩
  rw [hK] at cI hroom hge
  have haz : (a : Int) ≤ (S.length : Int) := by omega
  clear hx1 hbt
  by_cases hk : K < 0
  · have hb : bytF S a = none := by unfold bytF; rw [hK, if_pos hk]
    have HB := Lib.hid hb
    clear hb hK hroom hge
    go_enter Tryz.func30, Tryz.ntmps30
    go_wp2_with fail
    go_quiet ((go_at_call 19; exact Calls.quiet_of_same (cI _ (hG.below (drewN_below w _)))))
    go_wp2_with fail
    go_quiet (fail)
    go_wp2_with (go_at_call 12; ((with_reducible refine (cF _ _ (hP.drewN _)).mono ?_); rintro e w1 h; obtain ⟨b, rfl, h1, h2, h3⟩ := h))
    exact ⟨rfl, bytR_no HB.out (FailsW.from ⟨b, rfl, h1, h2, h3⟩ (kept_drewN (Kept.refl _ _) _))⟩
  · obtain ⟨k, rfl⟩ := Int.eq_ofNat_of_zero_le (show 0 ≤ K by omega)
    have hkr : a + k + 2 ≤ S.length := by have := hroom (by omega); simp at this; omega
    have hx2 : (⟨S.toArray⟩ : ByteArray).extract a (a + k) = ⟨((S.drop a).take k).toArray⟩ := by rw [w_part, Nat.add_sub_cancel_left]
    have hws : IntKind.i64.wrap ((a : Int) + (k : Int)) = (a : Int) + (k : Int) := IntWalk.i64_in _ (by omega)
    have hwd : IntKind.i64.wrap ((k : Int) - 1) = (k : Int) - 1 := IntWalk.i64_in _ (by omega)
    have z1 : ((a : Int) + (k : Int)).toNat = a + k := by omega
    have z2 : (a : Int) ≤ (a : Int) + (k : Int) := by omega
    have z3 : (a : Int) + (k : Int) ≤ (S.length : Int) := by omega
    have z4 : (0 : Int) ≤ (a : Int) + (k : Int) := by omega
    have cB := fun W => Tryz.strings_IndexByte ⟨((S.drop a).take k).toArray⟩ 125 W
    have hcc : (125 : Int).toNat.toUInt8 = 125 := rfl
    rw [hcc] at cB
    have cL := fun W hW => literal_any ((S.drop a).take k) W (by simp; omega) hW
    rw [← hx2] at cB cL
    have hHB : ∀ h2, bytF S a = _ := fun h2 => byt_at hK h2
    have hnone : Lib.indexByte ((S.drop a).take k) 125 ≠ (k : Int) - 1 → bytF S a = none := fun h => by unfold bytF; rw [hK, if_neg (by omega), Int.toNat_natCast, if_pos h]
    have hneg := fun v (h : litF ((S.drop a).take k) = some v) => lit_neg h
    have e1 : (⟨((S.drop a).take k).toArray⟩ : ByteArray).data.toList = (S.drop a).take k := rfl
    obtain ⟨J, hJ⟩ : ∃ J, Lib.indexByte ((S.drop a).take k) 125 = J := ⟨_, rfl⟩
    have cB : ∀ W, Calls Tryz.prog 37 #[.string ((⟨S.toArray⟩ : ByteArray).extract a (a + k)), .int .u8 125] W fun e w' => e = .returned (.int .i64 J) ∧ w' = W := fun W => by
      have := cB W
      rw [hx2, ← hJ] at *
      exact this
    rw [hJ] at hHB hnone
    have hkd : decide ((k : Int) < 0) = false := decide_eq_false (by omega)
    clear hx2 hroom hge hK hJ e1 hcc
    by_cases hj : J = (k : Int) - 1
    · have hHB := hHB hj
      have hj1 : (J == (k : Int) - 1) = true := by rw [beq_iff_eq]; exact hj
      have hj2 : (J != (k : Int) - 1) = false := by rw [bne, hj1]; rfl
      have hsl : ∀ W : World, (Instr.slice 9 (.string ⟨S.toArray⟩) (some (.int .i64 (a : Int))) (some (.int .i64 ((a : Int) + (k : Int)))) none).run Tryz.prog W = .ok (.string ((⟨S.toArray⟩ : ByteArray).extract a (a + k))) W := fun W => by
        rw [run_slice_string W 9 _ .i64 .i64 (a : Int) ((a : Int) + (k : Int)) Tryz.underlying9 (by omega) (by omega) (by rw [hts]; exact z3), Int.toNat_natCast, z1]
      generalize litF ((S.drop a).take k) = L at cL hneg hHB
      cases L with
      | none =>
        have HB := Lib.hid hHB
        simp only [Option.getD_none] at cL
        have HSL := Lib.hid hsl
        clear hnone hneg hHB hj hsl
        as_aux_lemma =>
        go_enter Tryz.func30, Tryz.ntmps30
        go_wp2_with fail
        go_quiet ((go_at_call 19; exact Calls.quiet_of_same (cI _ (hG.below (drewN_below w _)))))
        go_upto_region 2 with fail
        have hP1 := hP.drewN nq
        have hG1 := hG.below (drewN_below w nq)
        have hK1 := kept_drewN (Kept.refl (fun k => k = P) w) nq
        generalize w.drewN nq = w1 at hP1 hG1 hK1 ⊢
        clear hP hG c0 c1 c2 f1
        obtain ⟨c0, c1, c2⟩ := three_cells hP1
        have f1 := Lib.frozen_of_heap hP1 1
        go_wp2_with fail
        go_quiet ((go_at_call 37; exact Calls.quiet_of_same (cB _)))
        go_upto_region 4 with fail
        have hP2 := hP1.drewN nq
        have hG2 := hG1.below (drewN_below w1 nq)
        have hK2 := kept_drewN hK1 nq
        generalize w1.drewN nq = w2 at hP2 hG2 hK2 ⊢
        clear hP1 hG1 hK1 c0 c1 c2 f1
        obtain ⟨c0, c1, c2⟩ := three_cells hP2
        have hsl := HSL.out
        go_still_tail 15, (by kernel_rfl)
        change wpList _ _ _ _ _ w2.drew
        have hP3 : ParsW w2.drew P S a n := hP2
        have hG3 : WireG w2.drew := hG2.below (Below.refl _ _).drew
        have hK3 : Kept (fun k => k = P) w w2.drew := hK2.trans (kept_below (Below.refl _ _).drew)
        generalize w2.drew = w3 at hP3 hG3 hK3 ⊢
        clear hP2 hG2 hK2 c0 c1 c2 hsl
        go_wp2_with (first
          | (go_at_call 20; go_loud (((with_reducible refine (cL _ hG3.str).mono ?_); rintro e w4 ⟨rfl, h4⟩; have hP4 := hP3.below h4; have hK4 := hK3.trans (kept_below h4); obtain ⟨c0, c1, c2⟩ := three_cells hP4)))
          | (go_at_call 12; ((with_reducible refine (cF _ _ hP4).mono ?_); rintro e w1 h; obtain ⟨b, rfl, h1, h2, h3⟩ := h)))
        exact ⟨rfl, bytR_no HB.out (FailsW.from ⟨b, rfl, h1, h2, h3⟩ hK4)⟩
      | some v =>
        obtain ⟨hv0, hv1⟩ := hneg v rfl
        obtain ⟨m, rfl⟩ := Int.eq_ofNat_of_zero_le hv0
        have hmz : (m : Int) ≤ 4611686018427387904 := hv1
        have hHB : bytF S a = if S.length < a + k + 2 + m then none else some ((S.drop (a + k + 2)).take m, a + k + 2 + m) := hHB
        simp only [Option.getD_some] at cL
        have HSL := Lib.hid hsl
        by_cases hm : S.length < a + k + 2 + m
        · rw [if_pos hm] at hHB
          have HB := Lib.hid hHB
          have hm2 : (S.length : Int) - ((a : Int) + (k : Int) + 2) < (m : Int) := by omega
          clear hnone hneg hHB hj hsl hm
          as_aux_lemma =>
          go_enter Tryz.func30, Tryz.ntmps30
          go_wp2_with fail
          go_quiet ((go_at_call 19; exact Calls.quiet_of_same (cI _ (hG.below (drewN_below w _)))))
          go_upto_region 2 with fail
          have hP1 := hP.drewN nq
          have hG1 := hG.below (drewN_below w nq)
          have hK1 := kept_drewN (Kept.refl (fun k => k = P) w) nq
          generalize w.drewN nq = w1 at hP1 hG1 hK1 ⊢
          clear hP hG c0 c1 c2 f1
          obtain ⟨c0, c1, c2⟩ := three_cells hP1
          have f1 := Lib.frozen_of_heap hP1 1
          go_wp2_with fail
          go_quiet ((go_at_call 37; exact Calls.quiet_of_same (cB _)))
          go_upto_region 4 with fail
          have hP2 := hP1.drewN nq
          have hG2 := hG1.below (drewN_below w1 nq)
          have hK2 := kept_drewN hK1 nq
          generalize w1.drewN nq = w2 at hP2 hG2 hK2 ⊢
          clear hP1 hG1 hK1 c0 c1 c2 f1
          obtain ⟨c0, c1, c2⟩ := three_cells hP2
          have hsl := HSL.out
          go_still_tail 15, (by kernel_rfl)
          change wpList _ _ _ _ _ w2.drew
          have hP3 : ParsW w2.drew P S a n := hP2
          have hG3 : WireG w2.drew := hG2.below (Below.refl _ _).drew
          have hK3 : Kept (fun k => k = P) w w2.drew := hK2.trans (kept_below (Below.refl _ _).drew)
          generalize w2.drew = w3 at hP3 hG3 hK3 ⊢
          clear hP2 hG2 hK2 c0 c1 c2 hsl
          go_wp2_with (first
            | (go_at_call 20; go_loud (((with_reducible refine (cL _ hG3.str).mono ?_); rintro e w4 ⟨rfl, h4⟩; have hP4 := hP3.below h4; have hK4 := hK3.trans (kept_below h4); obtain ⟨c0, c1, c2⟩ := three_cells hP4)))
            | (go_at_call 12; ((with_reducible refine (cF _ _ hP4).mono ?_); rintro e w1 h; obtain ⟨b, rfl, h1, h2, h3⟩ := h)))
          exact ⟨rfl, bytR_no HB.out (FailsW.from ⟨b, rfl, h1, h2, h3⟩ hK4)⟩
        · rw [if_neg hm] at hHB
          have HB := Lib.hid hHB
          have hm2 : ¬ (S.length : Int) - ((a : Int) + (k : Int) + 2) < (m : Int) := by omega
          have hx5 : (⟨S.toArray⟩ : ByteArray).extract (a + k + 2) (a + k + 2 + m) = ⟨((S.drop (a + k + 2)).take m).toArray⟩ := by rw [w_part, Nat.add_sub_cancel_left]
          have q1 : ((a : Int) + (k : Int) + 2).toNat = a + k + 2 := by omega
          have q2 : ((a : Int) + (k : Int) + 2 + (m : Int)).toNat = a + k + 2 + m := by omega
          have q3 : (0 : Int) ≤ (a : Int) + (k : Int) + 2 := by omega
          have q4 : (a : Int) + (k : Int) + 2 ≤ (a : Int) + (k : Int) + 2 + (m : Int) := by omega
          have q5 : (a : Int) + (k : Int) + 2 + (m : Int) ≤ (S.length : Int) := by omega
          clear hnone hneg hHB hj hsl hm
          as_aux_lemma =>
          go_enter Tryz.func30, Tryz.ntmps30
          go_wp2_with fail
          go_quiet ((go_at_call 19; exact Calls.quiet_of_same (cI _ (hG.below (drewN_below w _)))))
          go_upto_region 2 with fail
          have hP1 := hP.drewN nq
          have hG1 := hG.below (drewN_below w nq)
          have hK1 := kept_drewN (Kept.refl (fun k => k = P) w) nq
          generalize w.drewN nq = w1 at hP1 hG1 hK1 ⊢
          clear hP hG c0 c1 c2 f1
          obtain ⟨c0, c1, c2⟩ := three_cells hP1
          have f1 := Lib.frozen_of_heap hP1 1
          go_wp2_with fail
          go_quiet ((go_at_call 37; exact Calls.quiet_of_same (cB _)))
          go_upto_region 4 with fail
          have hP2 := hP1.drewN nq
          have hG2 := hG1.below (drewN_below w1 nq)
          have hK2 := kept_drewN hK1 nq
          generalize w1.drewN nq = w2 at hP2 hG2 hK2 ⊢
          clear hP1 hG1 hK1 c0 c1 c2 f1
          obtain ⟨c0, c1, c2⟩ := three_cells hP2
          have hsl := HSL.out
          go_still_tail 15, (by kernel_rfl)
          change wpList _ _ _ _ _ w2.drew
          have hP3 : ParsW w2.drew P S a n := hP2
          have hG3 : WireG w2.drew := hG2.below (Below.refl _ _).drew
          have hK3 : Kept (fun k => k = P) w w2.drew := hK2.trans (kept_below (Below.refl _ _).drew)
          generalize w2.drew = w3 at hP3 hG3 hK3 ⊢
          clear hP2 hG2 hK2 c0 c1 c2 hsl
          go_upto_region 9 with (go_at_call 20; go_loud (((with_reducible refine (cL _ hG3.str).mono ?_); rintro e w4 ⟨rfl, h4⟩; have hP4 := hP3.below h4; have hK4 := hK3.trans (kept_below h4); obtain ⟨c0, c1, c2⟩ := three_cells hP4; have f1 := Lib.frozen_of_heap hP4 1)))
          have hq : ((a + k + 2 + m : Nat) : Int) = (a : Int) + (k : Int) + 2 + (m : Int) := by omega
          have hP5 := hP4.set (a + k + 2 + m)
          have hK5 := hK4.setB (i := 1) (.int .i64 ((a : Int) + (k : Int) + 2 + (m : Int)))
          rw [hq] at hP5
          generalize w4.setCell ⟨P, 1, none⟩ (.int .i64 ((a : Int) + (k : Int) + 2 + (m : Int))) = w5 at hP5 hK5 ⊢
          clear hP4 hK4 c0 c1 c2 f1 hq
          obtain ⟨c0, c1, c2⟩ := three_cells hP5
          go_quiet (fail)
          go_wp2_with fail
          go_ret
          exact bytR_yes HB.out rfl (hP5.drewN _) (kept_drewN hK5 _)
    · have HB := Lib.hid (hnone hj)
      have hj1 : (J == (k : Int) - 1) = false := by rw [beq_eq_false_iff_ne]; exact hj
      have hj2 : (J != (k : Int) - 1) = true := by rw [bne, hj1]; rfl
      clear hHB hnone hneg cL
      as_aux_lemma =>
      go_enter Tryz.func30, Tryz.ntmps30
      go_wp2_with fail
      go_quiet ((go_at_call 19; exact Calls.quiet_of_same (cI _ (hG.below (drewN_below w _)))))
      go_upto_region 2 with fail
      have hP1 := hP.drewN nq
      have hG1 := hG.below (drewN_below w nq)
      have hK1 := kept_drewN (Kept.refl (fun k => k = P) w) nq
      generalize w.drewN nq = w1 at hP1 hG1 hK1 ⊢
      clear hP hG c0 c1 c2 f1
      obtain ⟨c0, c1, c2⟩ := three_cells hP1
      have f1 := Lib.frozen_of_heap hP1 1
      go_wp2_with fail
      go_quiet ((go_at_call 37; exact Calls.quiet_of_same (cB _)))
      go_wp2_with (go_at_call 12; ((with_reducible refine (cF _ _ (hP1.drewN _)).mono ?_); rintro e w1 h; obtain ⟨b, rfl, h1, h2, h3⟩ := h))
      exact ⟨rfl, bytR_no HB.out (FailsW.from ⟨b, rfl, h1, h2, h3⟩ (kept_drewN hK1 _))⟩
end Go.Proofs.YtbfndlmihijcgaaGreatDoor
