/- The walks over the small parts of wire's parser: atom, end, fail, blank, word. No condition beyond those each names. -/
import Derived.Test.YtbfndlmihijcgaaGreatDoorWireB
import Derived.Test.YtbfndlmihijcgaaGreatDoorKept
import Derived.Test.YtbfndlmihijcgaaGreatDoorPParse
import Derived.WalkLawsBesides
import Derived.Deep.QuietTactic
import Derived.BigQuiet
namespace Go.Proofs.YtbfndlmihijcgaaGreatDoor
open Go.RowKit Go.Shelf

/-- a parser: its text, where it stands, how many parts it has read -/
def ParsW (w : World) (P : Nat) (S : List UInt8) (a n : Nat) : Prop := w.heap[P]? = some (.cells #[.string ⟨S.toArray⟩, .int .i64 (a : Int), .int .i64 (n : Int)] 43 (0, 0))
theorem ParsW.lt {w : World} {P a n : Nat} {S : List UInt8} (h : ParsW w P S a n) : P < w.heap.size := (Array.getElem?_eq_some_iff.1 h).1
theorem ParsW.below {w w' : World} {P a n : Nat} {S : List UInt8} (h : ParsW w P S a n) (hb : Below w.heap.size w w') : ParsW w' P S a n := below_same hb h
/-- what it means that the reading has failed: thrown with an error, and its place -/
def FailsW (P : Nat) (E a : Nat) (w : World) (e : Ending) (w' : World) : Prop := ∃ b, e = .panicked [{ v := .iface 39 (.agg #[.iface 54 (.pointer (some ⟨b, 0, none⟩))]), recovered := false }] ∧ w.heap.size ≤ b ∧ w'.heap[b]? = some (.cells #[.int .i64 (E : Int), .int .i64 (a : Int)] 56 (0, 0)) ∧ Kept (fun k => k = P) w w'

theorem index_contains : ∀ (l : List UInt8) (c : UInt8), decide (Lib.indexByte l c < 0) = !l.contains c
  | [], c => by simp [Lib.indexByte]
  | b :: l, c => by
    have ih := index_contains l c
    have hg := Lib.indexByte_ge l c
    unfold Lib.indexByte
    by_cases hb : b = c
    · subst hb; simp
    · rw [if_neg (by simpa using hb)]
      have hc : (b :: l).contains c = l.contains c := by
        rw [List.contains_cons]
        have : (c == b) = false := by rw [beq_eq_false_iff_ne]; exact fun e => hb e.symm
        rw [this, Bool.false_or]
      rw [hc, ← ih]
      split
      · rename_i h; rw [beq_iff_eq] at h; rw [h]
      · rename_i h
        have : Lib.indexByte l c ≠ -1 := fun e => h (beq_iff_eq.2 e)
        rw [Bool.eq_iff_iff, decide_eq_true_eq, decide_eq_true_eq]; omega
set_option maxHeartbeats 1000000 in
theorem atom_any (c : UInt8) (w : World) : Calls Tryz.prog 22 #[.int .u8 (c.toNat : Int)] w fun e w' => e = .returned (.bool (atomB c)) ∧ w' = w := by
  have cI := Tryz.strings_IndexByte ⟨#[40, 41, 123, 34]⟩ (c.toNat : Int) w
  have hcc : (c.toNat : Int).toNat.toUInt8 = c := by rw [Int.toNat_natCast]; exact UInt8.ofNat_toNat
  rw [hcc] at cI
  have hdec := index_contains [40, 41, 123, 34] c
  unfold atomB
  by_cases h1 : 32 < c.toNat
  · by_cases h2 : c.toNat < 127
    · rw [decide_eq_true h1, decide_eq_true h2, Bool.true_and, Bool.true_and, ← hdec]
      have h1z : (32 : Int) < (c.toNat : Int) := by omega
      have h2z : (c.toNat : Int) < 127 := by omega
      obtain ⟨R, hR⟩ : ∃ R, Lib.indexByte [40, 41, 123, 34] c = R := ⟨_, rfl⟩
      have cI : Calls Tryz.prog 37 #[.string ⟨#[40, 41, 123, 34]⟩, .int .u8 (c.toNat : Int)] w fun e w' => e = .returned (.int .i64 R) ∧ w' = w := by rw [← hR]; exact cI
      rw [hR]
      clear hdec hR hcc h1 h2
      go_enter Tryz.func22, Tryz.ntmps22
      go_wp2_with ((go_at_call 37; with_reducible refine cI.mono ?_; rintro e w1 ⟨rfl, hw⟩; rw [hw]; clear hw))
      all_goals
        go_ret
        exact ⟨rfl, rfl⟩
    · rw [decide_eq_true h1, decide_eq_false h2, Bool.true_and, Bool.false_and]
      have h1z : (32 : Int) < (c.toNat : Int) := by omega
      have h2z : ¬ (c.toNat : Int) < 127 := by omega
      clear hdec cI hcc h1 h2
      go_enter Tryz.func22, Tryz.ntmps22
      go_wp2_with fail
      go_ret
      exact ⟨rfl, rfl⟩
  · rw [decide_eq_false h1, Bool.false_and]
    have h1z : ¬ (32 : Int) < (c.toNat : Int) := by omega
    clear hdec cI hcc h1
    go_enter Tryz.func22, Tryz.ntmps22
    go_wp2_with fail
    go_ret
    exact ⟨rfl, rfl⟩

set_option maxHeartbeats 1000000 in
theorem end_any (P a n : Nat) (S : List UInt8) (w : World) (hP : ParsW w P S a n) (hS : S.length ≤ 1000000) (h2 : 2 ≤ S.length) : Calls Tryz.prog 16 #[.pointer (some ⟨P, 0, none⟩)] w fun e w' => e = .returned (.bool (decide (S.length ≤ a + 2))) ∧ ∃ q, w' = w.drewN q := by
  have hts := w_size S
  obtain ⟨c0, c1, c2⟩ := three_cells hP
  by_cases h : S.length ≤ a + 2
  · have hz : (S.length : Int) - 2 ≤ (a : Int) := by omega
    have hw : IntKind.i64.wrap ((S.length : Int) - 2) = (S.length : Int) - 2 := IntWalk.i64_in _ (by omega)
    have hd : decide ((S.length : Int) - 2 ≤ (a : Int)) = true := decide_eq_true hz
    rw [decide_eq_true h]
    clear hP
    go_enter Tryz.func16, Tryz.ntmps16
    go_wp2_with fail
    go_quiet (fail)
    go_wp2_with fail
    go_ret
    exact ⟨rfl, _, rfl⟩
  · have hz : (a : Int) < (S.length : Int) - 2 := by omega
    have hw : IntKind.i64.wrap ((S.length : Int) - 2) = (S.length : Int) - 2 := IntWalk.i64_in _ (by omega)
    have hd : decide ((S.length : Int) - 2 ≤ (a : Int)) = false := decide_eq_false (by omega)
    rw [decide_eq_false h]
    clear hP
    go_enter Tryz.func16, Tryz.ntmps16
    go_wp2_with fail
    go_quiet (fail)
    go_wp2_with fail
    go_ret
    exact ⟨rfl, _, rfl⟩

set_option maxHeartbeats 1000000 in
theorem fail_any (P a n E : Nat) (S : List UInt8) (w : World) (hP : ParsW w P S a n) : Calls Tryz.prog 12 #[.pointer (some ⟨P, 0, none⟩), .int .i64 (E : Int)] w (FailsW P E a w) := by
  obtain ⟨c0, c1, c2⟩ := three_cells hP
  have hn := World.heap_alloc_new w (.cells #[.int .i64 (E : Int), .int .i64 (a : Int)] 56 (0, 0))
  have hk : Kept (fun k => k = P) w (w.alloc (.cells #[.int .i64 (E : Int), .int .i64 (a : Int)] 56 (0, 0))) := (Kept.refl _ w).alloc _
  have HN := Lib.hid hn
  have HK := Lib.hid hk
  clear hn hk hP
  go_enter Tryz.func12, Tryz.ntmps12
  go_wp2_with fail
  exact ⟨rfl, w.heap.size, rfl, Nat.le_refl _, HN.out, HK.out⟩

/-- a world behind draws -/
theorem drewN_below (w : World) (q : Nat) : Below w.heap.size w (w.drewN q) := below_drewN (Below.refl _ _) q
theorem ParsW.set {w : World} {P a n : Nat} {S : List UInt8} (h : ParsW w P S a n) (b : Nat) : ParsW (w.setCell ⟨P, 1, none⟩ (.int .i64 (b : Int))) P S b n := set3_1 h
theorem FailsW.from {P E a : Nat} {w w1 w2 : World} {e : Ending} (h : FailsW P E a w1 e w2) (hk : Kept (fun k => k = P) w w1) : FailsW P E a w e w2 := by
  obtain ⟨b, h1, h2, h3, h4⟩ := h
  exact ⟨b, h1, Nat.le_trans hk.size h2, h3, hk.trans h4⟩
theorem byte_at {S : List UInt8} {a : Nat} {c : UInt8} (h : S[a]? = some c) (hl : a < (⟨S.toArray⟩ : ByteArray).size) : (⟨S.toArray⟩ : ByteArray)[a]'hl = c := by
  obtain ⟨h1, rfl⟩ := List.getElem?_eq_some_iff.1 h
  rfl

theorem drewN_heap (w : World) (q : Nat) : (w.drewN q).heap = w.heap := rfl
theorem ParsW.drewN {w : World} {P a n : Nat} {S : List UInt8} (h : ParsW w P S a n) (q : Nat) : ParsW (w.drewN q) P S a n := h
theorem kept_drewN {T : Nat → Prop} {w w' : World} (h : Kept T w w') (q : Nat) : Kept T w (w'.drewN q) := h.trans (kept_below (drewN_below w' q))

set_option maxRecDepth 100000 in
set_option maxHeartbeats 2000000 in
theorem blank_yes (P a n : Nat) (S : List UInt8) (w : World) (hP : ParsW w P S a n) (hS : S.length ≤ 1000000) (h2 : 2 ≤ S.length) (hb : blankF S a = true) :
    Calls Tryz.prog 14 #[.pointer (some ⟨P, 0, none⟩)] w fun e w' => e = .returned (.tuple #[]) ∧ ParsW w' P S (a + 1) n ∧ Kept (fun k => k = P) w w' := by
  have hts := w_size S
  obtain ⟨c0, c1, c2⟩ := three_cells hP
  have f1 := Lib.frozen_of_heap hP 1
  have hc := of_decide_eq_true hb
  obtain ⟨ha, hc'⟩ := bodyL_get hc
  have cE := fun W (h : ParsW W P S a n) => end_any P a n S W h hS h2
  rw [decide_eq_false (by omega)] at cE
  have hal : (a : Int) < (S.length : Int) := by omega
  have hx : ∀ h, (⟨S.toArray⟩ : ByteArray)[a]'h = 32 := byte_at hc'
  go_enter Tryz.func14, Tryz.ntmps14
  go_wp2_with fail
  go_quiet ((go_at_call 16; exact Calls.quiet_of (cE _ hP)))
  go_wp2_with fail
  go_end0
  exact ⟨rfl, (hP.drewN _).set (a + 1), (kept_drewN (Kept.refl _ _) _).setB _⟩

set_option maxRecDepth 100000 in
set_option maxHeartbeats 2000000 in
theorem blank_no (P a n : Nat) (S : List UInt8) (w : World) (hP : ParsW w P S a n) (hS : S.length ≤ 1000000) (h2 : 2 ≤ S.length) (hb : blankF S a = false) :
    Calls Tryz.prog 14 #[.pointer (some ⟨P, 0, none⟩)] w (FailsW P 3 a w) := by
  have hts := w_size S
  obtain ⟨c0, c1, c2⟩ := three_cells hP
  have cF : ∀ W, ParsW W P S a n → Calls Tryz.prog 12 #[.pointer (some ⟨P, 0, none⟩), .int .i64 3] W (FailsW P 3 a W) := fun W h => fail_any P a n 3 S W h
  have hb := of_decide_eq_false hb
  by_cases hl : S.length ≤ a + 2
  · have cE := fun W (h : ParsW W P S a n) => end_any P a n S W h hS h2
    rw [decide_eq_true hl] at cE
    clear hb
    go_enter Tryz.func14, Tryz.ntmps14
    go_wp2_with fail
    go_quiet ((go_at_call 16; exact Calls.quiet_of (cE _ hP)))
    go_wp2_with ((go_at_call 12; (with_reducible refine (cF _ (hP.drewN _)).mono ?_); rintro e w1 h; obtain ⟨b, rfl, h1, h2, h3⟩ := h))
    exact ⟨rfl, b, rfl, h1, h2, (kept_drewN (Kept.refl _ _) _).trans h3⟩
  · have cE := fun W (h : ParsW W P S a n) => end_any P a n S W h hS h2
    rw [decide_eq_false hl] at cE
    have hal : (a : Int) < (S.length : Int) := by omega
    obtain ⟨c, hc⟩ : ∃ c, S[a]? = some c := ⟨S[a]'(by omega), List.getElem?_eq_getElem (by omega)⟩
    have hx : ∀ h, (⟨S.toArray⟩ : ByteArray)[a]'h = c := byte_at hc
    have hne : ((c.toNat : Int) == 32) = false := by
      rw [show (32 : Int) = ((32 : Nat) : Int) from rfl, byte_eq c 32 (by decide), decide_eq_false_iff_not]
      intro e
      rw [bodyL_at (by omega), hc, e] at hb
      exact hb rfl
    have hne2 : ((c.toNat : Int) != 32) = true := by rw [bne, hne]; rfl
    clear hb
    go_enter Tryz.func14, Tryz.ntmps14
    go_wp2_with fail
    go_quiet ((go_at_call 16; exact Calls.quiet_of (cE _ hP)))
    go_wp2_with ((go_at_call 12; (with_reducible refine (cF _ (hP.drewN _)).mono ?_); rintro e w1 h; obtain ⟨b, rfl, h1, h2, h3⟩ := h))
    exact ⟨rfl, b, rfl, h1, h2, (kept_drewN (Kept.refl _ _) _).trans h3⟩

/-- what word brings: the word, or a failure -/
def WordR (P a n : Nat) (S : List UInt8) (w : World) (e : Ending) (w' : World) : Prop :=
  if wordL S a = [] then FailsW P 3 a w e w' else e = .returned (.string ⟨(wordL S a).toArray⟩) ∧ ParsW w' P S (a + (wordL S a).length) n ∧ Kept (fun k => k = P) w w'
theorem wordR_no {P a n : Nat} {S : List UInt8} {w : World} {e : Ending} {w' : World} (h : wordL S a = []) (hf : FailsW P 3 a w e w') : WordR P a n S w e w' := by unfold WordR; rw [if_pos h]; exact hf
theorem wordR_yes {P a n : Nat} {S : List UInt8} {w : World} {e : Ending} {w' : World} (h : wordL S a ≠ []) (he : e = .returned (.string ⟨(wordL S a).toArray⟩)) (hP : ParsW w' P S (a + (wordL S a).length) n) (hk : Kept (fun k => k = P) w w') : WordR P a n S w e w' := by unfold WordR; rw [if_neg h]; exact ⟨he, hP, hk⟩
set_option maxRecDepth 100000 in
set_option maxHeartbeats 4000000 in
theorem word_any (P a n : Nat) (S : List UInt8) (w : World) (hP : ParsW w P S a n) (hS : S.length ≤ 1000000) (h2 : 2 ≤ S.length) (ha : a ≤ S.length) :
    Calls Tryz.prog 13 #[.pointer (some ⟨P, 0, none⟩)] w (WordR P a n S w) := by
  have hts := w_size S
  obtain ⟨c0, c1, c2⟩ := three_cells hP
  have hwt := wordL_take S a
  have hwl := wordL_le S a
  have cE := fun W k (h : ParsW W P S k n) => end_any P k n S W h hS h2
  have cF : ∀ W k, ParsW W P S k n → Calls Tryz.prog 12 #[.pointer (some ⟨P, 0, none⟩), .int .i64 3] W (FailsW P 3 k W) := fun W k h => fail_any P k n 3 S W h
  have HT := Lib.hid hwt
  have HL := Lib.hid hwl
  have HP := Lib.hid hP
  clear hwt hwl hP
  go_enter Tryz.func13, Tryz.ntmps13
  go_wp2_with fail
  clear c0 c1 c2
  go_loopg [] (S.length - a) (fun g wr => ∃ (k : Nat), a ≤ k ∧ k ≤ S.length ∧ k + g = S.length ∧ ParsW wr P S k n ∧ Hid ((wordL S a).length + a = k + (wordL S k).length) ∧ Kept (fun k => k = P) w wr)
  case atStart => exact ⟨a, Nat.le_refl _, ha, by omega, HP.out, Lib.hid (by omega), Kept.refl _ _⟩
  case round =>
    obtain ⟨k, hak, hkl, hkg, hPk, HW, hK⟩ := hrel
    obtain ⟨c0, c1, c2⟩ := three_cells hPk
    have f1 := Lib.frozen_of_heap hPk 1
    cases hc : (bodyL S)[k]? with
    | none =>
      have hl : S.length ≤ k + 2 := by
        have := List.getElem?_eq_none_iff.1 hc
        rw [bodyL_len] at this; omega
      rw [wordL_end hc] at HW
      have cE1 := fun W (h : ParsW W P S k n) => cE W k h
      rw [decide_eq_true hl] at cE1
      have hw0 := HW.out
      clear cE hc
      by_cases hka : k = a
      · subst hka
        have h0 : wordL S k = [] := List.eq_nil_of_length_eq_zero (by rw [List.length_nil] at hw0; omega)
        have H0 := Lib.hid h0
        clear HW hw0 h0
        go_wp2_with fail
        go_quiet ((go_at_call 16; exact Calls.quiet_of (cE1 _ hPk)))
        go_wp2_with ((go_at_call 12; (with_reducible refine (cF _ _ (hPk.drewN _)).mono ?_); rintro e w1 h; obtain ⟨b, rfl, h1, h2, h3⟩ := h))
        exact ⟨rfl, wordR_no H0.out (FailsW.from ⟨b, rfl, h1, h2, h3⟩ (kept_drewN hK _))⟩
      · have hlen : (wordL S a).length = k - a := by rw [List.length_nil] at hw0; omega
        have hne : wordL S a ≠ [] := by intro e; rw [e] at hlen; simp at hlen; omega
        have hx1 : (⟨S.toArray⟩ : ByteArray).extract a k = ⟨(wordL S a).toArray⟩ := by rw [w_part, ← hlen, HT.out]
        have hp := hPk
        rw [show k = a + (wordL S a).length by omega] at hp
        have HN := Lib.hid hne
        have HQ := Lib.hid hp
        have hkz : ¬ (k : Int) = (a : Int) := by omega
        have hkb : ((k : Int) == (a : Int)) = false := by rw [beq_eq_false_iff_ne]; exact hkz
        have haz : (a : Int) ≤ (k : Int) := by omega
        have hkz2 : (k : Int) ≤ (S.length : Int) := by omega
        clear HW hw0 hlen hne hp
        go_wp2_with fail
        go_quiet ((go_at_call 16; exact Calls.quiet_of (cE1 _ hPk)))
        go_wp2_with fail
        go_quiet (fail)
        go_wp2_with fail
        go_ret
        exact wordR_yes HN.out rfl HQ.out (kept_drewN (kept_drewN hK _) _)
    | some c =>
      obtain ⟨hl, hc'⟩ := bodyL_get hc
      have cE1 := fun W (h : ParsW W P S k n) => cE W k h
      rw [decide_eq_false (by omega)] at cE1
      have hkl2 : (k : Int) < (S.length : Int) := by omega
      have hx : ∀ h, (⟨S.toArray⟩ : ByteArray)[k]'h = c := byte_at hc'
      have cA := fun W => atom_any c W
      clear cE
      by_cases hat : atomB c = true
      · rw [hat] at cA
        obtain ⟨g', rfl⟩ : ∃ g', gk = g' + 1 := ⟨gk - 1, by omega⟩
        have hw0 := HW.out
        rw [wordL_yes hc hat] at hw0
        have HW2 : Hid ((wordL S a).length + a = k + 1 + (wordL S (k + 1)).length) := Lib.hid (by rw [hw0, List.length_cons]; omega)
        clear HW hw0 hc hc' hat
        go_wp2_with fail
        go_quiet ((first | (go_at_call 16; exact Calls.quiet_of (cE1 _ hPk)) | (go_at_call 22; exact Calls.quiet_of_same (cA _))))
        go_wp2_with fail
        go_roundg g'
        case measure => omega
        case rel => exact ⟨k + 1, by omega, by omega, by omega, (hPk.drewN _).set (k + 1), HW2, (kept_drewN hK _).setB _⟩
      · have hat : atomB c = false := by simpa using hat
        rw [hat] at cA
        have hw0 := HW.out
        rw [wordL_no hc hat] at hw0
        clear hc hc' hat HW
        by_cases hka : k = a
        · subst hka
          have h0 : wordL S k = [] := List.eq_nil_of_length_eq_zero (by rw [List.length_nil] at hw0; omega)
          have H0 := Lib.hid h0
          clear hw0 h0
          go_wp2_with fail
          go_quiet ((first | (go_at_call 16; exact Calls.quiet_of (cE1 _ hPk)) | (go_at_call 22; exact Calls.quiet_of_same (cA _))))
          go_wp2_with ((go_at_call 12; (with_reducible refine (cF _ _ (hPk.drewN _)).mono ?_); rintro e w1 h; obtain ⟨b, rfl, h1, h2, h3⟩ := h))
          exact ⟨rfl, wordR_no H0.out (FailsW.from ⟨b, rfl, h1, h2, h3⟩ (kept_drewN hK _))⟩
        · have hlen : (wordL S a).length = k - a := by rw [List.length_nil] at hw0; omega
          have hne : wordL S a ≠ [] := by intro e; rw [e] at hlen; simp at hlen; omega
          have hx1 : (⟨S.toArray⟩ : ByteArray).extract a k = ⟨(wordL S a).toArray⟩ := by rw [w_part, ← hlen, HT.out]
          have hp := hPk
          rw [show k = a + (wordL S a).length by omega] at hp
          have HN := Lib.hid hne
          have HQ := Lib.hid hp
          have hkz : ¬ (k : Int) = (a : Int) := by omega
          have hkb : ((k : Int) == (a : Int)) = false := by rw [beq_eq_false_iff_ne]; exact hkz
          have haz : (a : Int) ≤ (k : Int) := by omega
          have hkz2 : (k : Int) ≤ (S.length : Int) := by omega
          clear hw0 hlen hne hp
          go_wp2_with fail
          go_quiet ((first | (go_at_call 16; exact Calls.quiet_of (cE1 _ hPk)) | (go_at_call 22; exact Calls.quiet_of_same (cA _))))
          go_wp2_with fail
          go_quiet (fail)
          go_wp2_with fail
          go_ret
          exact wordR_yes HN.out rfl HQ.out (kept_drewN (kept_drewN hK _) _)
end Go.Proofs.YtbfndlmihijcgaaGreatDoor
