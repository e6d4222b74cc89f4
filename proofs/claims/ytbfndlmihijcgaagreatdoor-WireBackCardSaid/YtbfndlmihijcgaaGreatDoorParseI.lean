/- The walk over wire.Parse: it returns the command that the plain parser reads, or its error. Conditions: strconv's table of powers and its two errors, and bytealg.MaxLen, lie as the program's text lays them. -/
import Derived.Test.YtbfndlmihijcgaaGreatDoorParseH
namespace Go.Proofs.YtbfndlmihijcgaaGreatDoor
open Go.RowKit Go.Shelf Go.Sort
set_option linter.unusedSimpArgs false

/-- the world in which Parse begins its work -/
abbrev cmdW (w : World) (S : List UInt8) : World := ((w.alloc (.cells #[.string ⟨#[]⟩, .string ⟨#[]⟩, .slice none 0 0] 25)).alloc (.cells #[.nilIface] 27)).alloc (.cells #[.string ⟨S.toArray⟩, .int .i64 0, .int .i64 0] 43)
theorem cmdW_start (w : World) (S : List UInt8) : LstP w.heap.size (w.heap.size + 2) S w 0 0 [] [] [] (cmdW w S) (.slice none 0 0) := by
  have h1 := World.heap_alloc_new w (.cells #[.string ⟨#[]⟩, .string ⟨#[]⟩, .slice none 0 0] 25)
  have s1 := alloc_size w (.cells #[.string ⟨#[]⟩, .string ⟨#[]⟩, .slice none 0 0] 25)
  have h2 := World.heap_alloc_new (w.alloc (.cells #[.string ⟨#[]⟩, .string ⟨#[]⟩, .slice none 0 0] 25)) (.cells #[.nilIface] 27)
  have s2 := alloc_size (w.alloc (.cells #[.string ⟨#[]⟩, .string ⟨#[]⟩, .slice none 0 0] 25)) (.cells #[.nilIface] 27)
  have h3 := World.heap_alloc_new ((w.alloc (.cells #[.string ⟨#[]⟩, .string ⟨#[]⟩, .slice none 0 0] 25)).alloc (.cells #[.nilIface] 27)) (.cells #[.string ⟨S.toArray⟩, .int .i64 0, .int .i64 0] 43)
  rw [s2, s1] at h3
  rw [s1] at h2
  refine ⟨h3, alloc_same (alloc_same h1), alloc_same h2, World.ownsRow_nil _ _ _ _, ?_, fun x hx => by cases hx⟩
  exact (((Below.refl _ w).alloc (Nat.le_refl _) _).alloc (by rw [s1]; exact Nat.le_succ _) _).alloc (by rw [s2, s1]; omega) _
set_option maxRecDepth 100000 in
set_option maxHeartbeats 16000000 in
theorem parse_any (S : List UInt8) (w : World) (hS : S.length ≤ 1000000) (hG : WireG w) : Calls Tryz.prog 5 #[.string ⟨S.toArray⟩] w (CmdR S w) := by
  have hts := w_size S
  have hL0 := cmdW_start w S
  obtain ⟨w0, hw0⟩ : ∃ w0, cmdW w S = w0 := ⟨_, rfl⟩
  rw [hw0] at hL0
  have HW := Lib.hid hw0
  have HL0 := Lib.hid hL0
  have HG := Lib.hid (fun W (h : Below w.heap.size w W) => hG.below h)
  have hmf : ∀ (fn : Fn) (first cap : Array Value) (w : World), (Instr.makeFunc fn first cap).run Tryz.prog w = .ok (.func fn first cap) w := fun _ _ _ _ => rfl
  have cS := fun W => Tryz.strings_HasSuffix ⟨S.toArray⟩ ⟨#[13, 10]⟩ W (by rw [hts]; omega)
  have e1 : Lib.hasSuffix (⟨S.toArray⟩ : ByteArray).data.toList (⟨#[13, 10]⟩ : ByteArray).data.toList = Lib.hasSuffix S [13, 10] := rfl
  rw [e1] at cS
  clear hw0 hL0 hG e1
  cases hsf : Lib.hasSuffix S [13, 10] with
  | false =>
    have hpf : parseF S = .error (3, 0) := by unfold parseF; rw [if_pos hsf]
    rw [hsf] at cS
    have HPF := Lib.hid hpf
    have cF : ∀ W, ParsW W (w.heap.size + 2) S 0 0 → Calls Tryz.prog 12 #[.pointer (some ⟨w.heap.size + 2, 0, none⟩), .int .i64 3] W (FailsW (w.heap.size + 2) 3 0 W) := fun W h => fail_any _ 0 0 3 S W h
    clear hpf hsf
    go_enter_defers Tryz.func5, Tryz.ntmps5
    go_upto_region 3 with fail
    rw [show ((w.alloc (.cells #[.string ⟨#[]⟩, .string ⟨#[]⟩, .slice none 0 0] 25)).alloc (.cells #[.nilIface] 27)).alloc (.cells #[.string ⟨S.toArray⟩, .int .i64 0, .int .i64 0] 43) = w0 from HW.out]
    have hPp := HL0.out.pars
    go_wp2_with (first
      | (go_at_call 11; (with_reducible refine (cS _).mono ?_); rintro e w1 ⟨rfl, hw⟩; rw [hw]; clear hw)
      | (go_at_call 12; go_loud (((with_reducible refine (cF _ hPp).mono ?_); rintro e w1 h; obtain ⟨b, rfl, h1, h2, h3⟩ := h))))
    obtain ⟨b1, b2, b3⟩ := HL0.out.bad (Nat.le_add_right _ _) h3
    exact door_bad rfl rfl HPF.out b1 b2 h2 b3 (Nat.le_refl _)
  | true =>
    have h2 : 2 ≤ S.length := by
      unfold Lib.hasSuffix at hsf
      rw [List.isSuffixOf_iff_suffix] at hsf
      exact hsf.length_le
    have hpf : parseF S = if wordL S 0 = [] then .error (3, 0) else if blankF S (wordL S 0).length = false then .error (3, (wordL S 0).length) else if wordL S ((wordL S 0).length + 1) = [] then .error (3, (wordL S 0).length + 1) else match argsF S 100 ((wordL S 0).length + 1 + (wordL S ((wordL S 0).length + 1)).length) 0 [] with
        | .error e => .error e
        | .ok (l, a) => if a + 2 = S.length then .ok (wordL S 0, upL (wordL S ((wordL S 0).length + 1)), l) else .error (3, a) := by
      unfold parseF
      rw [if_neg (by rw [hsf]; decide)]
      rfl
    rw [hsf] at cS
    have hPw : w.heap.size ≤ w.heap.size + 2 := Nat.le_add_right _ _
    have hCP : w.heap.size < w.heap.size + 2 := by omega
    have cW := fun W k (h : ParsW W (w.heap.size + 2) S k 0) (ha : k ≤ S.length) => word_any _ k 0 S W h hS h2 ha
    clear hsf
    by_cases hq1 : wordL S 0 = []
    · rw [if_pos hq1] at hpf
      have HPF := Lib.hid hpf
      have cF1 : ∀ W, ParsW W (w.heap.size + 2) S 0 0 → Calls Tryz.prog 13 #[.pointer (some ⟨w.heap.size + 2, 0, none⟩)] W (FailsW (w.heap.size + 2) 3 0 W) := fun W h => (cW W 0 h (Nat.zero_le _)).mono fun e w' h => by unfold WordR at h; rw [if_pos hq1] at h; exact h
      clear hpf hq1 cW
      as_aux_lemma =>
      go_enter_defers Tryz.func5, Tryz.ntmps5
      go_upto_region 3 with fail
      rw [show ((w.alloc (.cells #[.string ⟨#[]⟩, .string ⟨#[]⟩, .slice none 0 0] 25)).alloc (.cells #[.nilIface] 27)).alloc (.cells #[.string ⟨S.toArray⟩, .int .i64 0, .int .i64 0] 43) = w0 from HW.out]
      have hPp := HL0.out.pars
      go_wp2_with (first
        | (go_at_call 11; (with_reducible refine (cS _).mono ?_); rintro e w1 ⟨rfl, hw⟩; rw [hw]; clear hw)
        | (go_at_call 13; go_loud (((with_reducible refine (cF1 _ hPp).mono ?_); rintro e w4 h; obtain ⟨b, rfl, g1, g2, g3⟩ := h))))
      obtain ⟨b1, b2, b3⟩ := HL0.out.bad hPw g3
      exact door_bad rfl rfl HPF.out b1 b2 g2 b3 (Nat.le_refl _)
    rw [if_neg hq1] at hpf
    have cW1 : ∀ W, ParsW W (w.heap.size + 2) S 0 0 → Calls Tryz.prog 13 #[.pointer (some ⟨w.heap.size + 2, 0, none⟩)] W fun e w' => e = .returned (.string ⟨(wordL S 0).toArray⟩) ∧ ParsW w' (w.heap.size + 2) S (wordL S 0).length 0 ∧ Kept (fun k => k = w.heap.size + 2) W w' := fun W h => (cW W 0 h (Nat.zero_le _)).mono fun e w' h => by
      unfold WordR at h; rw [if_neg hq1, Nat.zero_add] at h; exact h
    have hl1 : (wordL S 0).length + 2 ≤ S.length := by
      rcases wordL_le S 0 with h | h
      · exact absurd h hq1
      · omega
    have hat1 := word_atoms S 0
    obtain ⟨tag, htag⟩ : ∃ tag, wordL S 0 = tag := ⟨_, rfl⟩
    rw [htag] at hpf cW1 hl1 hat1
    clear hq1 htag hat1
    by_cases hq2 : blankF S tag.length = false
    · rw [if_pos hq2] at hpf
      have HPF := Lib.hid hpf
      have cF1 := fun W (h : ParsW W (w.heap.size + 2) S tag.length 0) => blank_no _ tag.length 0 S W h hS h2 hq2
      clear hpf hq2 cW
      as_aux_lemma =>
      go_enter_defers Tryz.func5, Tryz.ntmps5
      go_upto_region 3 with fail
      rw [show ((w.alloc (.cells #[.string ⟨#[]⟩, .string ⟨#[]⟩, .slice none 0 0] 25)).alloc (.cells #[.nilIface] 27)).alloc (.cells #[.string ⟨S.toArray⟩, .int .i64 0, .int .i64 0] 43) = w0 from HW.out]
      have hPp := HL0.out.pars
      go_upto_region 6 with (first
        | (go_at_call 11; (with_reducible refine (cS _).mono ?_); rintro e w1 ⟨rfl, hw⟩; rw [hw]; clear hw)
        | (go_at_call 13; go_loud (((with_reducible refine (cW1 _ hPp).mono ?_); rintro e w1 ⟨rfl, hP1, hk1⟩; have hL1 := HL0.out.call hPw hk1 hP1; obtain ⟨c0, c1, c2⟩ := three_cells hL1.blk; have fC := Lib.frozen_of_heap hL1.blk))))
      have hL2 := hL1.setC (i := 0) (u := .string ⟨tag.toArray⟩) (tag' := tag) (nm' := []) (Nat.le_refl _) hCP (set3_0 hL1.blk)
      generalize w1.setCell ⟨w.heap.size, 0, none⟩ (.string ⟨tag.toArray⟩) = w2 at hL2 ⊢
      clear hP1 hk1 hL1 c0 c1 c2 fC hPp
      have hPp := hL2.pars
      go_wp2_with (first
        | (go_at_call 11; (with_reducible refine (cS _).mono ?_); rintro e w1 ⟨rfl, hw⟩; rw [hw]; clear hw)
        | (go_at_call 14; go_loud (((with_reducible refine (cF1 _ hPp).mono ?_); rintro e w4 h; obtain ⟨b, rfl, g1, g2, g3⟩ := h))))
      obtain ⟨b1, b2, b3⟩ := hL2.bad hPw g3
      exact door_bad rfl rfl HPF.out b1 b2 g2 b3 (Nat.le_refl _)
    rw [if_neg hq2] at hpf
    have hq2 : blankF S tag.length = true := by simpa using hq2
    have cB1 := fun W (h : ParsW W (w.heap.size + 2) S tag.length 0) => blank_yes _ tag.length 0 S W h hS h2 hq2
    have hb1 := (bodyL_get (of_decide_eq_true hq2)).1
    clear hq2
    by_cases hq3 : wordL S (tag.length + 1) = []
    · rw [if_pos hq3] at hpf
      have HPF := Lib.hid hpf
      have cF1 : ∀ W, ParsW W (w.heap.size + 2) S (tag.length + 1) 0 → Calls Tryz.prog 13 #[.pointer (some ⟨w.heap.size + 2, 0, none⟩)] W (FailsW (w.heap.size + 2) 3 (tag.length + 1) W) := fun W h => (cW W (tag.length + 1) h (by omega)).mono fun e w' h => by unfold WordR at h; rw [if_pos hq3] at h; exact h
      clear hpf hq3 cW
      as_aux_lemma =>
      go_enter_defers Tryz.func5, Tryz.ntmps5
      go_upto_region 3 with fail
      rw [show ((w.alloc (.cells #[.string ⟨#[]⟩, .string ⟨#[]⟩, .slice none 0 0] 25)).alloc (.cells #[.nilIface] 27)).alloc (.cells #[.string ⟨S.toArray⟩, .int .i64 0, .int .i64 0] 43) = w0 from HW.out]
      have hPp := HL0.out.pars
      go_upto_region 6 with (first
        | (go_at_call 11; (with_reducible refine (cS _).mono ?_); rintro e w1 ⟨rfl, hw⟩; rw [hw]; clear hw)
        | (go_at_call 13; go_loud (((with_reducible refine (cW1 _ hPp).mono ?_); rintro e w1 ⟨rfl, hP1, hk1⟩; have hL1 := HL0.out.call hPw hk1 hP1; obtain ⟨c0, c1, c2⟩ := three_cells hL1.blk; have fC := Lib.frozen_of_heap hL1.blk))))
      have hL2 := hL1.setC (i := 0) (u := .string ⟨tag.toArray⟩) (tag' := tag) (nm' := []) (Nat.le_refl _) hCP (set3_0 hL1.blk)
      generalize w1.setCell ⟨w.heap.size, 0, none⟩ (.string ⟨tag.toArray⟩) = w2 at hL2 ⊢
      clear hP1 hk1 hL1 c0 c1 c2 fC hPp
      have hPp := hL2.pars
      go_upto_region 7 with (go_at_call 14; go_loud (((with_reducible refine (cB1 _ hPp).mono ?_); rintro e w3 ⟨rfl, hP3, hk3⟩)))
      have hL3 := hL2.call hPw hk3 hP3
      clear hL2 hPp hP3 hk3
      have hPp := hL3.pars
      go_wp2_with (first
        | (go_at_call 11; (with_reducible refine (cS _).mono ?_); rintro e w1 ⟨rfl, hw⟩; rw [hw]; clear hw)
        | (go_at_call 13; go_loud (((with_reducible refine (cF1 _ hPp).mono ?_); rintro e w4 h; obtain ⟨b, rfl, g1, g2, g3⟩ := h))))
      obtain ⟨b1, b2, b3⟩ := hL3.bad hPw g3
      exact door_bad rfl rfl HPF.out b1 b2 g2 b3 (Nat.le_refl _)
    rw [if_neg hq3] at hpf
    have cW2 : ∀ W, ParsW W (w.heap.size + 2) S (tag.length + 1) 0 → Calls Tryz.prog 13 #[.pointer (some ⟨w.heap.size + 2, 0, none⟩)] W fun e w' => e = .returned (.string ⟨(wordL S (tag.length + 1)).toArray⟩) ∧ ParsW w' (w.heap.size + 2) S (tag.length + 1 + (wordL S (tag.length + 1)).length) 0 ∧ Kept (fun k => k = w.heap.size + 2) W w' := fun W h => (cW W (tag.length + 1) h (by omega)).mono fun e w' h => by
      unfold WordR at h; rw [if_neg hq3] at h; exact h
    have hl2 : tag.length + 1 + (wordL S (tag.length + 1)).length + 2 ≤ S.length := by
      rcases wordL_le S (tag.length + 1) with h | h
      · exact absurd h hq3
      · omega
    have hat2 := word_atoms S (tag.length + 1)
    obtain ⟨nm, hnm⟩ : ∃ nm, wordL S (tag.length + 1) = nm := ⟨_, rfl⟩
    rw [hnm] at hpf cW2 hl2 hat2
    have cU : ∀ W, Calls Tryz.prog 15 #[.string ⟨nm.toArray⟩] W fun e w' => e = .returned (.string ⟨(upL nm).toArray⟩) ∧ Below W.heap.size W w' := fun W => by
      have := Tryz.strings_ToUpper_ascii ⟨nm.toArray⟩ W (by rw [w_size]; omega) (fun j b hb => by
        have := hat2 b (List.mem_of_getElem? hb)
        unfold atomB at this
        simp only [Bool.and_eq_true, decide_eq_true_eq] at this
        omega)
      have e : Lib.toUpperA (⟨nm.toArray⟩ : ByteArray).data.toList = upL nm := up_ascii nm
      rw [e] at this
      exact this
    obtain ⟨a0, ha0⟩ : ∃ a0, tag.length + 1 + nm.length = a0 := ⟨_, rfl⟩
    rw [ha0] at hpf cW2 hl2
    have HPF := Lib.hid hpf
    clear hq3 hnm hat2 ha0 hpf cW
    go_enter_defers Tryz.func5, Tryz.ntmps5
    go_upto_region 3 with fail
    rw [show ((w.alloc (.cells #[.string ⟨#[]⟩, .string ⟨#[]⟩, .slice none 0 0] 25)).alloc (.cells #[.nilIface] 27)).alloc (.cells #[.string ⟨S.toArray⟩, .int .i64 0, .int .i64 0] 43) = w0 from HW.out]
    have hPp := HL0.out.pars
    go_upto_region 6 with (first
      | (go_at_call 11; (with_reducible refine (cS _).mono ?_); rintro e w1 ⟨rfl, hw⟩; rw [hw]; clear hw)
      | (go_at_call 13; go_loud (((with_reducible refine (cW1 _ hPp).mono ?_); rintro e w1 ⟨rfl, hP1, hk1⟩; have hL1 := HL0.out.call hPw hk1 hP1; obtain ⟨c0, c1, c2⟩ := three_cells hL1.blk; have fC := Lib.frozen_of_heap hL1.blk))))
    have hL2 := hL1.setC (i := 0) (u := .string ⟨tag.toArray⟩) (tag' := tag) (nm' := []) (Nat.le_refl _) hCP (set3_0 hL1.blk)
    generalize w1.setCell ⟨w.heap.size, 0, none⟩ (.string ⟨tag.toArray⟩) = w2 at hL2 ⊢
    clear hP1 hk1 hL1 c0 c1 c2 fC hPp
    have hPp := hL2.pars
    go_upto_region 7 with (go_at_call 14; go_loud (((with_reducible refine (cB1 _ hPp).mono ?_); rintro e w3 ⟨rfl, hP3, hk3⟩)))
    have hL3 := hL2.call hPw hk3 hP3
    clear hL2 hPp hP3 hk3
    have hPp := hL3.pars
    go_upto_block 0 with (first
      | (go_at_call 13; go_loud (((with_reducible refine (cW2 _ hPp).mono ?_); rintro e w4 ⟨rfl, hP4, hk4⟩; have hL4 := hL3.call hPw hk4 hP4)))
      | (go_at_call 15; go_loud (((with_reducible refine (cU _).mono ?_); rintro e w5 ⟨rfl, h5⟩; have hL5 := hL4.below hPw h5; obtain ⟨c0, c1, c2⟩ := three_cells hL5.blk; have fC := Lib.frozen_of_heap hL5.blk))))
    have hL6 := hL5.setC (i := 1) (u := .string ⟨(upL nm).toArray⟩) (tag' := tag) (nm' := upL nm) (Nat.le_refl _) hCP (set3_1 hL5.blk)
    generalize w5.setCell ⟨w.heap.size, 1, none⟩ (.string ⟨(upL nm).toArray⟩) = w6 at hL6 ⊢
    clear hP4 hk4 hL4 hL3 h5 hL5 c0 c1 c2 fC hPp
    obtain ⟨R, hR⟩ : ∃ R, argsF S 100 a0 0 [] = R := ⟨_, rfl⟩
    have hpf := HPF.out
    rw [hR] at hpf
    have HPF := Lib.hid hpf
    have HR := Lib.hid hR
    have HL6 := Lib.hid hL6
    clear hpf hR hL6 HL0 HW cS cW1 cB1 cU cW2
    go_wp2_with fail
    go_loopg [] 61 (fun g wr => ∃ (k m f : Nat) (items : List (ArgP × Value)) (v : Value), k ≤ S.length ∧ m ≤ 60 ∧ m + g = 61 ∧ items.length ≤ m ∧ 100 ≤ f + m ∧ Hid (LstP w.heap.size (w.heap.size + 2) S w k m tag (upL nm) items wr v) ∧ Hid (argsF S f k m (items.map (·.1)) = R))
    case atStart => exact ⟨a0, 0, 100, [], _, by omega, by omega, by omega, by simp, by omega, HL6, HR⟩
    case round =>
      clear HL6 HR
      obtain ⟨k, m, f, items, v, hkl, hml, hmg, hil, hfm, HL, HF⟩ := hrel
      obtain ⟨f, rfl⟩ : ∃ f', f = f' + 1 := ⟨f - 1, by omega⟩
      obtain ⟨va, vc, rfl⟩ := owns_val HL.out.own
      have hPp := HL.out.pars
      have cE := end_any (w.heap.size + 2) k m S _ hPp hS h2
      by_cases hend : S.length ≤ k + 2
      · have hRv : R = .ok (items.map (·.1), k) := by rw [← HF.out, argsF, if_pos hend]
        rw [decide_eq_true hend] at cE
        have hpf := HPF.out
        rw [hRv] at hpf
        by_cases hk2 : k + 2 = S.length
        · have HP1 : Hid (parseF S = .ok (tag, upL nm, items.map (·.1))) := Lib.hid (hpf.trans (if_pos hk2))
          have hkz : (k : Int) = (S.length : Int) - 2 := by omega
          have hkb : ((k : Int) != (S.length : Int) - 2) = false := by rw [hkz]; simp
          have hwd : IntKind.i64.wrap ((S.length : Int) - 2) = (S.length : Int) - 2 := IntWalk.i64_in _ (by omega)
          have HKZ := Lib.hid hkz
          clear hpf hRv HPF HF hend hk2 hkz
          as_aux_lemma =>
          go_upto_region 11 with (go_at_call 16; ((with_reducible refine cE.mono ?_); rintro e w2 ⟨rfl, q, rfl⟩))
          have hL2 := HL.out.below hPw (drewN_below wr q)
          generalize wr.drewN q = w2 at hL2 ⊢
          obtain ⟨c0, c1, c2⟩ := three_cells hL2.pars
          obtain ⟨x0, x1, x2⟩ := three_cells hL2.blk
          have xe : w2.cell? ⟨w.heap.size + 1, 0, none⟩ = some .nilIface := by rw [Lib.cell_of_heap hL2.err]; rfl
          have fC := Lib.frozen_of_heap hL2.blk
          have fE := Lib.frozen_of_heap hL2.err
          have HL2 := Lib.hid hL2
          clear hL2
          go_wp2_with fail
          exact door_good rfl rfl HP1.out (HL2.out.fin (Nat.le_refl _) (by omega)) hPw
        · have HP1 : Hid (parseF S = .error (3, k)) := Lib.hid (hpf.trans (if_neg hk2))
          have hkz : ¬ (k : Int) = (S.length : Int) - 2 := by omega
          have hkb : ((k : Int) != (S.length : Int) - 2) = true := by rw [bne_iff_ne]; exact hkz
          have hwd : IntKind.i64.wrap ((S.length : Int) - 2) = (S.length : Int) - 2 := IntWalk.i64_in _ (by omega)
          have cF : ∀ W, ParsW W (w.heap.size + 2) S k m → Calls Tryz.prog 12 #[.pointer (some ⟨w.heap.size + 2, 0, none⟩), .int .i64 3] W (FailsW (w.heap.size + 2) 3 k W) := fun W h => fail_any _ k m 3 S W h
          clear hpf hRv HPF HF hend hk2
          as_aux_lemma =>
          go_upto_region 11 with (go_at_call 16; ((with_reducible refine cE.mono ?_); rintro e w2 ⟨rfl, q, rfl⟩))
          have hL2 := HL.out.below hPw (drewN_below wr q)
          generalize wr.drewN q = w2 at hL2 ⊢
          have hPp := hL2.pars
          obtain ⟨c0, c1, c2⟩ := three_cells hPp
          go_wp2_with (go_at_call 12; go_loud (((with_reducible refine (cF _ hPp).mono ?_); rintro e w4 h; obtain ⟨b, rfl, g1, g2, g3⟩ := h)))
          obtain ⟨b1, b2, b3⟩ := hL2.bad hPw g3
          exact door_bad rfl rfl HP1.out b1 b2 g2 b3 (Nat.le_refl _)
      · rw [decide_eq_false hend] at cE
        by_cases hbk : blankF S k = false
        · have hRv : R = .error (3, k) := by rw [← HF.out, argsF, if_neg hend, if_pos hbk]
          have hpf := HPF.out
          rw [hRv] at hpf
          have HP1 : Hid (parseF S = .error (3, k)) := Lib.hid hpf
          have cB := fun W (h : ParsW W (w.heap.size + 2) S k m) => blank_no _ k m S W h hS h2 hbk
          clear hpf hRv HPF HF hend hbk
          as_aux_lemma =>
          go_wp2_with (first
            | (go_at_call 16; ((with_reducible refine cE.mono ?_); rintro e w2 ⟨rfl, q, rfl⟩; have hL2 := HL.out.below hPw (drewN_below wr q); have hPp := hL2.pars))
            | (go_at_call 14; go_loud (((with_reducible refine (cB _ hPp).mono ?_); rintro e w4 h; obtain ⟨b, rfl, g1, g2, g3⟩ := h))))
          obtain ⟨b1, b2, b3⟩ := hL2.bad hPw g3
          exact door_bad rfl rfl HP1.out b1 b2 g2 b3 (Nat.le_refl _)
        · have hbk1 : blankF S k = true := by simpa using hbk
          have cB := fun W (h : ParsW W (w.heap.size + 2) S k m) => blank_yes _ k m S W h hS h2 hbk1
          have hk1 : k + 1 ≤ S.length := by omega
          have hst : R = match argF S 200 0 (k + 1) m with | .error e => .error e | .ok (x, b, m') => argsF S f b m' (items.map (·.1) ++ [x]) := by
            rw [← HF.out, argsF, if_neg hend, if_neg hbk]; rfl
          have HST := Lib.hid hst
          clear hbk hbk1 hst HF hend
          go_upto_region 10 with (first
            | (go_at_call 16; ((with_reducible refine cE.mono ?_); rintro e w2 ⟨rfl, q, rfl⟩; have hL2 := HL.out.below hPw (drewN_below wr q); have hPp := hL2.pars))
            | (go_at_call 14; go_loud (((with_reducible refine (cB _ hPp).mono ?_); rintro e w3 ⟨rfl, hP3, hk3⟩; have hL3 := hL2.call hPw hk3 hP3))))
          clear hP3 hk3 hL2 hPp cB cE HL
          have hLd := hL3.below hPw (Below.refl _ w3).drew
          have hGd := HG.out _ hLd.low
          have hPd := hLd.pars
          have hS0 : (fun _ : World => True) w3.drew := trivial
          have hS1 : (fun W : World => W.cell? ⟨w.heap.size, 2, none⟩ = some (.slice va items.length vc)) w3.drew := (three_cells hLd.blk).2.2
          obtain ⟨i0, hi, hz0, hz1, hz2⟩ := info_parts arg_info
          have cA : ∀ W, ParsW W (w.heap.size + 2) S (k + 1) m → WireG W → Calls Tryz.prog 17 #[.pointer (some ⟨w.heap.size + 2, 0, none⟩), .int .i64 0] W (ArgR (w.heap.size + 2) S W (argF S 200 0 (k + 1) m)) := fun W h hG => arg_any _ S hS h2 200 (k + 1) m 0 W h hml (by omega) hk1 (by omega) hG
          have HLD := Lib.hid hLd
          have HGD := Lib.hid hGd
          have HSD : Hid (w.heap.size + 2 < w3.drew.heap.size ∧ ∀ g, (Value.slice va items.length vc).ownBlock = some g → g < w3.drew.heap.size) := Lib.hid ⟨hLd.pars.lt, fun g e => (hLd.own.lt g e).2⟩
          clear hL3 hLd hGd
          refine until_start (S := fun W => W.cell? ⟨w.heap.size, 2, none⟩ = some (.slice va items.length vc)) (S0 := fun _ => True) (t := 10) (by kernel_rfl) ?_
          generalize w3.drew = wd at *
          refine until_take0 (i := 0) (v := ?v0) rfl (by kernel_rfl) (by kernel_rfl) (by kernel_rfl) (by rfl) (fun _ _ _ h => door_put (i := 28) (by decide) (by decide) h) (Or.inl ⟨by rfl, ?y0⟩) hS0 (fun _ => hS1) ?r0
          case y0 => (intro W hSw; (try dsimp only at hSw); go_simp; try with_reducible rfl)
          try simp only [Act.put, List.setIfInBounds_toArray, List.set_cons_zero, List.set_cons_succ]
          refine until_take (i := 1) (v := ?v1) rfl (by kernel_rfl) (by kernel_rfl) (by kernel_rfl) (by kernel_rfl) (fun _ _ _ h => door_put (i := 29) (by decide) (by decide) h) (Or.inl ⟨by rfl, ?y1⟩) hS0 hS1 ?r1
          case y1 => (intro W hSw; (try dsimp only at hSw); go_simp; try with_reducible rfl)
          try simp only [Act.put, List.setIfInBounds_toArray, List.set_cons_zero, List.set_cons_succ]
          refine until_take0 (i := 2) (v := ?v2) rfl (by kernel_rfl) (by kernel_rfl) (by kernel_rfl) (by rfl) (fun _ _ _ h => door_put (i := 30) (by decide) (by decide) h) (Or.inl ⟨by rfl, ?y2⟩) hS0 (fun _ => hS1) ?r2
          case y2 => (intro W hSw; (try dsimp only at hSw); go_simp; try with_reducible rfl)
          try simp only [Act.put, List.setIfInBounds_toArray, List.set_cons_zero, List.set_cons_succ]
          refine until_take0 (i := 4) (v := ?v4) rfl (by kernel_rfl) (by kernel_rfl) (by kernel_rfl) (by rfl) (fun _ _ _ h => door_put (i := 32) (by decide) (by decide) h) (Or.inl ⟨by rfl, ?y4⟩) hS0 (fun _ => hS1) ?r4
          case y4 => (intro W hSw; (try dsimp only at hSw); go_simp; try with_reducible rfl)
          try simp only [Act.put, List.setIfInBounds_toArray, List.set_cons_zero, List.set_cons_succ]
          cases hr : argF S 200 0 (k + 1) m with
          | error ee =>
            obtain ⟨E, p⟩ := ee
            have hRv := HST.out
            rw [hr] at hRv
            have hpf := HPF.out
            rw [hRv] at hpf
            have HP1 : Hid (parseF S = .error (E, p)) := Lib.hid hpf
            have cAe : ∀ W, ParsW W (w.heap.size + 2) S (k + 1) m → WireG W → Calls Tryz.prog 17 #[.pointer (some ⟨w.heap.size + 2, 0, none⟩), .int .i64 0] W (FailsW (w.heap.size + 2) E p W) := fun W h hG => by
              have := cA W h hG
              rw [hr] at this
              exact this
            clear HST hr hRv hpf HPF cA
            refine until_two (i := 3) (j := 5) (by kernel_rfl) rfl rfl (fun K hK => ?_) (fun K hK => ?_)
            · go_simp
              (with_reducible refine (cAe wd hPd HGD.out).mono ?_)
              rintro e w4 h
              obtain ⟨b, rfl, g1, g2, g3⟩ := h
              go_wp2_with fail
              obtain ⟨b1, b2, b3⟩ := HLD.out.bad hPw g3
              exact door_bad rfl rfl HP1.out b1 b2 g2 b3 (Nat.le_refl _)
            · go_simp
              have hLb := HLD.out.below hPw ((Below.refl wd.heap.size wd).alloc (Nat.le_refl _) (.cells #[.int .i64 0, .string ⟨#[]⟩, .slice none 0 0] 37))
              have hGb := HG.out _ hLb.low
              have hPb := hLb.pars
              have hSb := (three_cells hLb.blk).2.2
              refine hK.out _ _ trivial (fun _ _ => hSb) ?_
              clear hK K
              try simp only [Act.put, List.setIfInBounds_toArray, List.set_cons_zero, List.set_cons_succ]
              refine until_step (i := 3) (by kernel_rfl) rfl (fun K hK => ?_)
              go_simp
              (with_reducible refine (cAe _ hPb hGb).mono ?_)
              rintro e w4 h
              obtain ⟨b, rfl, g1, g2, g3⟩ := h
              go_wp2_with fail
              obtain ⟨b1, b2, b3⟩ := hLb.bad hPw g3
              exact door_bad rfl rfl HP1.out b1 b2 g2 b3 (Nat.le_refl _)
          | ok r =>
            obtain ⟨x, b', m'⟩ := r
            have hRv := HST.out
            rw [hr] at hRv
            have HX : Hid (argsF S f b' m' (items.map (·.1) ++ [x]) = R) := Lib.hid hRv.symm
            obtain ⟨_, hm', hm60, _, _⟩ := (fit_read S 200).1 _ _ _ _ _ _ hr 6 rfl
            have hszx := sizeA_pos x
            have hb' := (pos_read S 200).1 _ _ _ _ _ _ hr
            have cAo : ∀ W, ParsW W (w.heap.size + 2) S (k + 1) m → WireG W → Calls Tryz.prog 17 #[.pointer (some ⟨w.heap.size + 2, 0, none⟩), .int .i64 0] W fun e w' => ∃ xa xc, e = .returned (.agg #[.int .i64 (x.kind : Int), .string ⟨x.text.toArray⟩, .slice xa x.list.length xc]) ∧ ReadsA w' (fun j => W.heap.size ≤ j) (.slice xa x.list.length xc) x.list ∧ ParsW w' (w.heap.size + 2) S b' m' ∧ Kept (fun k => k = w.heap.size + 2) W w' := fun W h hG => by
              have := cA W h hG
              rw [hr] at this
              refine this.mono ?_
              rintro e w' ⟨vx, h1, h2, h3, h4⟩
              obtain ⟨xa, xc, rfl⟩ := readsA_slice h2
              exact ⟨xa, xc, h1, h2, h3, h4⟩
            clear HST hr hRv cA HPF
            refine until_two (i := 3) (j := 5) (by kernel_rfl) rfl rfl (fun K hK => ?_) (fun K hK => ?_)
            · go_simp
              (with_reducible refine (cAo wd hPd HGD.out).mono ?_)
              rintro e w4 ⟨xa, xc, rfl, hrd, hP4, hk4⟩
              have hL4 := HLD.out.call hPw hk4 hP4
              have HL4 := Lib.hid hL4
              have HRD := Lib.hid hrd
              have HD2 := Lib.hid (three_cells hL4.blk).2.2
              clear hL4 hrd hP4 hk4 hS0 hS1 cAo hPd
              go_wp2_with fail
              refine hK.out _ _ trivial (fun _ _ => HD2.out) ?_
              clear hK K
              try simp only [Act.put, List.setIfInBounds_toArray, List.set_cons_zero, List.set_cons_succ]
              have yb : Below w4.heap.size w4 (w4.alloc (.cells #[.int .i64 0, .string ⟨#[]⟩, .slice none 0 0] 37)) := (Below.refl _ _).alloc (Nat.le_refl _) _
              have hL5 := HL4.out.below hPw yb
              have hR5 := readsA_below HRD.out yb
              have hZ := World.heap_alloc_new w4 (.cells #[.int .i64 0, .string ⟨#[]⟩, .slice none 0 0] 37)
              have hd5 := (three_cells hL5.blk).2.2
              refine until_step (i := 5) (by kernel_rfl) rfl (fun K hK => ?_)
              go_simp
              refine hK.out _ _ trivial (fun _ _ => hd5) ?_
              clear hK K
              try simp only [Act.put, List.setIfInBounds_toArray, List.set_cons_zero, List.set_cons_succ]
              have HL5 := Lib.hid hL5; have HR5 := Lib.hid hR5; have HZ := Lib.hid hZ
              clear hL5 hR5 hZ hd5 yb HRD HL4 HD2
              generalize w4.heap.size = Z at HZ ⊢
              generalize w4.alloc (.cells #[.int .i64 0, .string ⟨#[]⟩, .slice none 0 0] 37) = w5 at HL5 HR5 HZ ⊢
              have hN := World.news_of_block HZ.out
              have hba : w.heap.size + 2 + 1 ≤ w5.heap.size := HL5.out.pars.lt
              have HN := Lib.hid hN
              clear hN
              refine until_step (i := 6) (by kernel_rfl) rfl (fun K hK => ?_)
              refine step_append_lies _ (by rfl) (.tmp 29) (.tmp 33) 23 (by rfl) (w.heap.size + 2 + 1) 37 i0 _ 3 48 Tryz.underlying23 hi hz0 hz1 hz2 (by rfl) (by omega) (.slice va items.length vc) items.length (cellsA items) (by rfl) HL5.out.own ⟨Z, 0, none⟩ 1 1 [.int .i64 0, .string ⟨#[]⟩, .slice none 0 0] (by rfl) (by rfl) HN.out (by intro u hu; simp only [List.mem_cons, List.not_mem_nil, or_false] at hu; rcases hu with rfl | rfl | rfl <;> rfl) (by omega) (by unfold maxLen; omega) (by omega) hba w5.heap.size rfl ?_
              intro g2 cap2 w6 ho6 hg6 hat6 hl6
              have hC6 : w6.heap[w.heap.size]? = some (.cells #[.string ⟨tag.toArray⟩, .string ⟨(upL nm).toArray⟩, .slice va items.length vc] 25 (0, 0)) := (hg6.block w.heap.size (by omega) (fun e => by have := (HL5.out.own.lt w.heap.size e.symm).1; omega)).trans HL5.out.blk
              have hL7 := HL5.out.push rfl (by omega) x (.slice xa x.list.length xc) wd.heap.size HSD.out.1 HSD.out.2 HR5.out ho6 hg6 hat6
              have hcl := cellsA_len items
              have hgC : g2 ≠ w.heap.size := by have := (ho6.lt g2 rfl).1; omega
              have hcat : ∀ i u, ([.int .i64 0, .string ⟨#[]⟩, .slice none 0 0] : List Value)[i]? = some u → w6.cell? ⟨g2, items.length * 3 + i, none⟩ = some u := fun i u hu => by
                have hi3 : i < 3 := (List.getElem?_eq_some_iff.1 hu).1
                rw [ho6.cellAt (items.length * 3 + i) (by omega), List.getElem?_append_right (by omega), show items.length * 3 + i - (cellsA items).length = i by omega]
                exact hu
              have g0 : w6.cell? ⟨g2, items.length * 3, none⟩ = some (.int .i64 0) := hcat 0 _ rfl
              have g1 : w6.cell? ⟨g2, items.length * 3 + 1, none⟩ = some (.string ⟨#[]⟩) := hcat 1 _ rfl
              have g2c : w6.cell? ⟨g2, items.length * 3 + 2, none⟩ = some (.slice none 0 0) := hcat 2 _ rfl
              have k0 : w6.frozen? ⟨g2, items.length * 3, none⟩ = false := ho6.frozenAt _
              have k1 : w6.frozen? ⟨g2, items.length * 3 + 1, none⟩ = false := ho6.frozenAt _
              have k2 : w6.frozen? ⟨g2, items.length * 3 + 2, none⟩ = false := ho6.frozenAt _
              have kC : w6.frozen? ⟨w.heap.size, 2, none⟩ = false := Lib.frozen_of_heap hC6 2
              have dC := (three_cells hC6).2.2
              have hCg : w.heap.size ≠ g2 := Ne.symm hgC
              have hiz : (items.length : Int) < (items.length : Int) + 1 := by omega
              have hiz0 : (0 : Int) ≤ (items.length : Int) := by omega
              have HL7 := Lib.hid hL7
              have HD := Lib.hid dC
              clear hL7 ho6 hg6 hat6 hl6 hcat hcl hC6 HL5 HR5 HZ HN
              refine hK.out _ _ trivial (fun _ _ => HD.out) ?_
              clear hK K
              try simp only [Act.put, List.setIfInBounds_toArray, List.set_cons_zero, List.set_cons_succ]
              refine until_take0 (i := 7) (v := ?v7a) rfl (by kernel_rfl) (by kernel_rfl) (by kernel_rfl) (by rfl) (fun _ _ _ h => door_put (i := 35) (by decide) (by decide) h) (Or.inl ⟨by rfl, ?y7a⟩) trivial (fun _ => HD.out) ?r7a
              case y7a => (intro W hSw; (try dsimp only at hSw); go_simp; try with_reducible rfl)
              try simp only [Act.put, List.setIfInBounds_toArray, List.set_cons_zero, List.set_cons_succ]
              refine until_take0 (i := 9) (v := ?v9a) rfl (by kernel_rfl) (by kernel_rfl) (by kernel_rfl) (by rfl) (fun _ _ _ h => door_put (i := 36) (by decide) (by decide) h) (Or.inl ⟨by rfl, ?y9a⟩) trivial (fun _ => HD.out) ?r9a
              case y9a => (intro W hSw; (try dsimp only at hSw); go_simp; try with_reducible rfl)
              try simp only [Act.put, List.setIfInBounds_toArray, List.set_cons_zero, List.set_cons_succ]
              refine until_two (i := 8) (j := 10) (by kernel_rfl) rfl rfl (fun K hK => ?_) (fun K hK => ?_)
              · go_simp
                refine hK.out _ _ trivial (fun _ _ => ?s1a) ?_
                case s1a => (simp [go_sem, dC, hCg, hgC])
                clear hK K
                try simp only [Act.put, List.setIfInBounds_toArray, List.set_cons_zero, List.set_cons_succ]
                refine until_step (i := 10) (by kernel_rfl) rfl (fun K hK => ?_)
                go_simp
                refine hK.out _ _ trivial (fun h _ => absurd rfl h) ?_
                clear hK K
                try simp only [Act.put, List.setIfInBounds_toArray, List.set_cons_zero, List.set_cons_succ]
                refine until_done (by kernel_rfl) ?_ _
                go_wp2_with fail
                go_roundg (61 - m')
                case measure => omega
                case rel => exact ⟨b', m', f, items ++ [(x, .slice xa x.list.length xc)], _, hb', hm60, by omega, by rw [List.length_append, List.length_singleton]; omega, by omega, HL7, by show _ = _; rw [List.map_append]; exact HX.out⟩
              · go_simp
                refine hK.out _ _ trivial (fun h _ => absurd rfl h) ?_
                clear hK K
                try simp only [Act.put, List.setIfInBounds_toArray, List.set_cons_zero, List.set_cons_succ]
                refine until_step (i := 8) (by kernel_rfl) rfl (fun K hK => ?_)
                go_simp
                refine hK.out _ _ trivial (fun _ h => absurd h (by decide)) ?_
                clear hK K
                try simp only [Act.put, List.setIfInBounds_toArray, List.set_cons_zero, List.set_cons_succ]
                refine until_done (by kernel_rfl) ?_ _
                rw [setCell_comm w6 ⟨w.heap.size, 2, none⟩ ⟨g2, items.length * 3, none⟩ _ _ hCg, setCell_comm _ ⟨w.heap.size, 2, none⟩ ⟨g2, items.length * 3 + 1, none⟩ _ _ hCg, setCell_comm _ ⟨w.heap.size, 2, none⟩ ⟨g2, items.length * 3 + 2, none⟩ _ _ hCg]
                go_wp2_with fail
                go_roundg (61 - m')
                case measure => omega
                case rel => exact ⟨b', m', f, items ++ [(x, .slice xa x.list.length xc)], _, hb', hm60, by omega, by rw [List.length_append, List.length_singleton]; omega, by omega, HL7, by show _ = _; rw [List.map_append]; exact HX.out⟩
            · go_simp
              have yb : Below wd.heap.size wd (wd.alloc (.cells #[.int .i64 0, .string ⟨#[]⟩, .slice none 0 0] 37)) := (Below.refl _ _).alloc (Nat.le_refl _) _
              have hLb := HLD.out.below hPw yb
              have hGb := HG.out _ hLb.low
              have hPb := hLb.pars
              have hSb := (three_cells hLb.blk).2.2
              have hZb := World.heap_alloc_new wd (.cells #[.int .i64 0, .string ⟨#[]⟩, .slice none 0 0] 37)
              refine hK.out _ _ trivial (fun _ _ => hSb) ?_
              clear hK K
              try simp only [Act.put, List.setIfInBounds_toArray, List.set_cons_zero, List.set_cons_succ]
              refine until_step (i := 3) (by kernel_rfl) rfl (fun K hK => ?_)
              go_simp
              (with_reducible refine (cAo _ hPb hGb).mono ?_)
              rintro e w5 ⟨xa, xc, rfl, hrd, hP4, hk4⟩
              have hL5 := hLb.call hPw hk4 hP4
              have hR5 := readsA_keep (ok' := fun j => wd.heap.size ≤ j) hrd (Nat.le_refl _) (fun _ _ _ => rfl) (fun j hj _ => by have h9 : (wd.alloc (.cells #[.int .i64 0, .string ⟨#[]⟩, .slice none 0 0] 37)).heap.size ≤ j := hj; rw [alloc_size] at h9; show wd.heap.size ≤ j; omega)
              have hZ := hk4.obj hZb (pars_ne hPb hZb (by decide))
              have HL5 := Lib.hid hL5; have HR5 := Lib.hid hR5; have HZ := Lib.hid hZ
              have HD2 := Lib.hid (three_cells hL5.blk).2.2
              clear hL5 hR5 hZ hrd hP4 hk4 hLb hGb hPb hSb hZb yb hS0 hS1 cAo hPd
              go_wp2_with fail
              refine hK.out _ _ trivial (fun _ _ => HD2.out) ?_
              clear hK K
              try simp only [Act.put, List.setIfInBounds_toArray, List.set_cons_zero, List.set_cons_succ]
              clear HD2
              generalize wd.heap.size = Z at HZ ⊢
              have hN := World.news_of_block HZ.out
              have hba : w.heap.size + 2 + 1 ≤ w5.heap.size := HL5.out.pars.lt
              have HN := Lib.hid hN
              clear hN
              refine until_step (i := 6) (by kernel_rfl) rfl (fun K hK => ?_)
              refine step_append_lies _ (by rfl) (.tmp 29) (.tmp 33) 23 (by rfl) (w.heap.size + 2 + 1) 37 i0 _ 3 48 Tryz.underlying23 hi hz0 hz1 hz2 (by rfl) (by omega) (.slice va items.length vc) items.length (cellsA items) (by rfl) HL5.out.own ⟨Z, 0, none⟩ 1 1 [.int .i64 0, .string ⟨#[]⟩, .slice none 0 0] (by rfl) (by rfl) HN.out (by intro u hu; simp only [List.mem_cons, List.not_mem_nil, or_false] at hu; rcases hu with rfl | rfl | rfl <;> rfl) (by omega) (by unfold maxLen; omega) (by omega) hba w5.heap.size rfl ?_
              intro g2 cap2 w6 ho6 hg6 hat6 hl6
              have hC6 : w6.heap[w.heap.size]? = some (.cells #[.string ⟨tag.toArray⟩, .string ⟨(upL nm).toArray⟩, .slice va items.length vc] 25 (0, 0)) := (hg6.block w.heap.size (by omega) (fun e => by have := (HL5.out.own.lt w.heap.size e.symm).1; omega)).trans HL5.out.blk
              have hL7 := HL5.out.push rfl (by omega) x (.slice xa x.list.length xc) wd.heap.size HSD.out.1 HSD.out.2 HR5.out ho6 hg6 hat6
              have hcl := cellsA_len items
              have hgC : g2 ≠ w.heap.size := by have := (ho6.lt g2 rfl).1; omega
              have hcat : ∀ i u, ([.int .i64 0, .string ⟨#[]⟩, .slice none 0 0] : List Value)[i]? = some u → w6.cell? ⟨g2, items.length * 3 + i, none⟩ = some u := fun i u hu => by
                have hi3 : i < 3 := (List.getElem?_eq_some_iff.1 hu).1
                rw [ho6.cellAt (items.length * 3 + i) (by omega), List.getElem?_append_right (by omega), show items.length * 3 + i - (cellsA items).length = i by omega]
                exact hu
              have g0 : w6.cell? ⟨g2, items.length * 3, none⟩ = some (.int .i64 0) := hcat 0 _ rfl
              have g1 : w6.cell? ⟨g2, items.length * 3 + 1, none⟩ = some (.string ⟨#[]⟩) := hcat 1 _ rfl
              have g2c : w6.cell? ⟨g2, items.length * 3 + 2, none⟩ = some (.slice none 0 0) := hcat 2 _ rfl
              have k0 : w6.frozen? ⟨g2, items.length * 3, none⟩ = false := ho6.frozenAt _
              have k1 : w6.frozen? ⟨g2, items.length * 3 + 1, none⟩ = false := ho6.frozenAt _
              have k2 : w6.frozen? ⟨g2, items.length * 3 + 2, none⟩ = false := ho6.frozenAt _
              have kC : w6.frozen? ⟨w.heap.size, 2, none⟩ = false := Lib.frozen_of_heap hC6 2
              have dC := (three_cells hC6).2.2
              have hCg : w.heap.size ≠ g2 := Ne.symm hgC
              have hiz : (items.length : Int) < (items.length : Int) + 1 := by omega
              have hiz0 : (0 : Int) ≤ (items.length : Int) := by omega
              have HL7 := Lib.hid hL7
              have HD := Lib.hid dC
              clear hL7 ho6 hg6 hat6 hl6 hcat hcl hC6 HL5 HR5 HZ HN
              refine hK.out _ _ trivial (fun _ _ => HD.out) ?_
              clear hK K
              try simp only [Act.put, List.setIfInBounds_toArray, List.set_cons_zero, List.set_cons_succ]
              refine until_take0 (i := 7) (v := ?v7b) rfl (by kernel_rfl) (by kernel_rfl) (by kernel_rfl) (by rfl) (fun _ _ _ h => door_put (i := 35) (by decide) (by decide) h) (Or.inl ⟨by rfl, ?y7b⟩) trivial (fun _ => HD.out) ?r7b
              case y7b => (intro W hSw; (try dsimp only at hSw); go_simp; try with_reducible rfl)
              try simp only [Act.put, List.setIfInBounds_toArray, List.set_cons_zero, List.set_cons_succ]
              refine until_take0 (i := 9) (v := ?v9b) rfl (by kernel_rfl) (by kernel_rfl) (by kernel_rfl) (by rfl) (fun _ _ _ h => door_put (i := 36) (by decide) (by decide) h) (Or.inl ⟨by rfl, ?y9b⟩) trivial (fun _ => HD.out) ?r9b
              case y9b => (intro W hSw; (try dsimp only at hSw); go_simp; try with_reducible rfl)
              try simp only [Act.put, List.setIfInBounds_toArray, List.set_cons_zero, List.set_cons_succ]
              refine until_two (i := 8) (j := 10) (by kernel_rfl) rfl rfl (fun K hK => ?_) (fun K hK => ?_)
              · go_simp
                refine hK.out _ _ trivial (fun _ _ => ?s1b) ?_
                case s1b => (simp [go_sem, dC, hCg, hgC])
                clear hK K
                try simp only [Act.put, List.setIfInBounds_toArray, List.set_cons_zero, List.set_cons_succ]
                refine until_step (i := 10) (by kernel_rfl) rfl (fun K hK => ?_)
                go_simp
                refine hK.out _ _ trivial (fun h _ => absurd rfl h) ?_
                clear hK K
                try simp only [Act.put, List.setIfInBounds_toArray, List.set_cons_zero, List.set_cons_succ]
                refine until_done (by kernel_rfl) ?_ _
                go_wp2_with fail
                go_roundg (61 - m')
                case measure => omega
                case rel => exact ⟨b', m', f, items ++ [(x, .slice xa x.list.length xc)], _, hb', hm60, by omega, by rw [List.length_append, List.length_singleton]; omega, by omega, HL7, by show _ = _; rw [List.map_append]; exact HX.out⟩
              · go_simp
                refine hK.out _ _ trivial (fun h _ => absurd rfl h) ?_
                clear hK K
                try simp only [Act.put, List.setIfInBounds_toArray, List.set_cons_zero, List.set_cons_succ]
                refine until_step (i := 8) (by kernel_rfl) rfl (fun K hK => ?_)
                go_simp
                refine hK.out _ _ trivial (fun _ h => absurd h (by decide)) ?_
                clear hK K
                try simp only [Act.put, List.setIfInBounds_toArray, List.set_cons_zero, List.set_cons_succ]
                refine until_done (by kernel_rfl) ?_ _
                rw [setCell_comm w6 ⟨w.heap.size, 2, none⟩ ⟨g2, items.length * 3, none⟩ _ _ hCg, setCell_comm _ ⟨w.heap.size, 2, none⟩ ⟨g2, items.length * 3 + 1, none⟩ _ _ hCg, setCell_comm _ ⟨w.heap.size, 2, none⟩ ⟨g2, items.length * 3 + 2, none⟩ _ _ hCg]
                go_wp2_with fail
                go_roundg (61 - m')
                case measure => omega
                case rel => exact ⟨b', m', f, items ++ [(x, .slice xa x.list.length xc)], _, hb', hm60, by omega, by rw [List.length_append, List.length_singleton]; omega, by omega, HL7, by show _ = _; rw [List.map_append]; exact HX.out⟩
end Go.Proofs.YtbfndlmihijcgaaGreatDoor
