/- The walk over wire.Quote: it returns what its plain function says. Conditions: strconv's table of powers and its two errors, and bytealg.MaxLen, lie as the program's text lays them. -/
import Derived.Test.YtbfndlmihijcgaaGreatDoorRepG
import Derived.Test.YtbfndlmihijcgaaGreatDoorPEsc
import Derived.Test.YtbfndlmihijcgaaGreatDoorParseB
import Derived.Test.YtbfndlmihijcgaaGreatDoorPBack
namespace Go.Proofs.YtbfndlmihijcgaaGreatDoor
open Go.RowKit Go.Shelf Go.Sort
set_option linter.unusedSimpArgs false

/-- a byte that may stand in a word as it is -/
def okB (c : UInt8) : Bool := atomB c && !(c == 92)
/-- a byte that may not stand in quotes -/
def rawC (c : UInt8) : Bool := decide (c.toNat < 32) || decide (126 < c.toNat)
/-- it may be a word, as far as it was looked at -/
def soFar (S : List UInt8) (i : Nat) : Bool := !S.isEmpty && (S.take i).all okB
theorem soFar_zero (S : List UInt8) : soFar S 0 = !S.isEmpty := by simp [soFar]
theorem soFar_step {S : List UInt8} {i : Nat} {c : UInt8} (h : S[i]? = some c) : soFar S (i + 1) = (soFar S i && okB c) := by
  unfold soFar
  rw [List.take_add_one, h]
  simp [Bool.and_assoc]
theorem soFar_all (S : List UInt8) : soFar S S.length = wordB S := by
  unfold soFar wordB okB
  rw [List.take_length]
theorem raw_zero (S : List UInt8) : rawB (S.take 0) = false := rfl
theorem raw_step {S : List UInt8} {i : Nat} {c : UInt8} (h : S[i]? = some c) (h1 : rawB (S.take i) = false) (h2 : rawC c = false) : rawB (S.take (i + 1)) = false := by
  unfold rawB at h1 ⊢
  rw [List.take_add_one, h, List.any_append, h1]
  simpa [rawC] using h2
theorem raw_hit {S : List UInt8} {i : Nat} {c : UInt8} (h : S[i]? = some c) (h2 : rawC c = true) : quoteF S = rawL S := by
  unfold quoteF
  rw [if_pos]
  unfold rawB
  rw [List.any_eq_true]
  exact ⟨c, List.mem_of_getElem? h, h2⟩
theorem word_done {S : List UInt8} (h1 : rawB S = false) (h2 : wordB S = true) : quoteF S = S := by unfold quoteF; rw [h1, h2]; rfl
theorem quoted_done {S : List UInt8} (h1 : rawB S = false) (h2 : wordB S = false) : quoteF S = quotedL S := by unfold quoteF; rw [h1, h2]; rfl
theorem cat_l (a b : List UInt8) : (⟨a.toArray⟩ : ByteArray) ++ ⟨b.toArray⟩ = ⟨(a ++ b).toArray⟩ := by
  apply ByteArray.ext
  simp
theorem raw_text (S : List UInt8) : ([123] ++ Lib.itoa (S.length : Int)) ++ [125, 13, 10] ++ S = rawL S := by
  have e : Lib.itoa (S.length : Int) = Lib.decDigits S.length := rfl
  rw [e]
  simp [rawL, litL]
theorem itoa_len (S : List UInt8) (h : 0 < S.length) : (Lib.itoa (S.length : Int)).length ≤ S.length := dec_len_le _ h
def escTs : List (List UInt8) := [[92], [92, 92], [34], [92, 34]]
theorem esc_row (w : World) : SRow (w.alloc (.cells #[.string ⟨#[92]⟩, .string ⟨#[92, 92]⟩, .string ⟨#[34]⟩, .string ⟨#[92, 34]⟩] 9)) (.slice (some ⟨w.heap.size, 0, none⟩) 4 4) escTs := by
  refine ⟨_, 4, rfl, by decide, ⟨by decide, fun e => by cases e⟩, fun j t hj => ⟨w.heap.size, 0, rfl, by rw [alloc_size]; exact Nat.lt_succ_self _, ?_⟩⟩
  rw [Lib.cell_of_heap (World.heap_alloc_new w _), Nat.zero_add]
  match j, hj with
  | 0, hj => cases hj; rfl
  | 1, hj => cases hj; rfl
  | 2, hj => cases hj; rfl
  | 3, hj => cases hj; rfl
  | j + 4, hj => simp [escTs] at hj

set_option maxRecDepth 100000 in
set_option maxHeartbeats 8000000 in
theorem quote_any (S : List UInt8) (w : World) (hS : S.length ≤ 100000) (hG : WireG w) :
    Calls Tryz.prog 32 #[.string ⟨S.toArray⟩] w fun e w' => e = .returned (.string ⟨(quoteF S).toArray⟩) ∧ Below w.heap.size w w' := by
  have hts := w_size S
  have hHG := Lib.hid (fun W (h : Below w.heap.size w W) => hG.below h)
  have cA := fun c W => atom_any c W
  go_enter Tryz.func32, Tryz.ntmps32
  go_wp2_with fail
  go_loopg [3, 4, 9] S.length (fun g s3 s4 s9 wr => ∃ i : Nat, i + g = S.length ∧ s9 = .int .i64 (i : Int) ∧ s3 = .bool (soFar S i) ∧ Below w.heap.size w wr ∧ Hid (rawB (S.take i) = false))
  case atStart => exact ⟨0, by omega, rfl, by rw [soFar_zero], Below.refl _ _, Lib.hid (raw_zero S)⟩
  case round =>
    obtain ⟨i, hi, rfl, rfl, y, HR⟩ := hrel
    by_cases hlt : i < S.length
    · obtain ⟨g', rfl⟩ : ∃ g', gk = g' + 1 := ⟨gk - 1, by omega⟩
      obtain ⟨c, hc⟩ : ∃ c, S[i]? = some c := ⟨S[i], List.getElem?_eq_getElem hlt⟩
      have hx : ∀ h, (⟨S.toArray⟩ : ByteArray)[i]'h = c := byte_at hc
      have hltz : (i : Int) < (S.length : Int) := by omega
      cases hraw : rawC c with
      | true =>
        have HQ := Lib.hid (raw_hit hc hraw)
        have cI := itoa_any (S.length : Int) wr (by omega) (by omega) (hHG.out wr y).str
        clear HR
        have hdl := itoa_len S (by omega)
        have HT := Lib.hid (raw_text S)
        generalize Lib.itoa (S.length : Int) = D at cI hdl HT
        obtain ⟨q1, hq1⟩ : ∃ q1, q1 = [123] ++ D := ⟨_, rfl⟩
        obtain ⟨q2, hq2⟩ : ∃ q2, q2 = q1 ++ [125, 13, 10] := ⟨_, rfl⟩
        have a1 : (⟨#[123]⟩ : ByteArray) ++ ⟨D.toArray⟩ = ⟨q1.toArray⟩ := by rw [hq1]; exact cat_l [123] D
        have a2 : (⟨q1.toArray⟩ : ByteArray) ++ ⟨#[125, 13, 10]⟩ = ⟨q2.toArray⟩ := by rw [hq2]; exact cat_l q1 [125, 13, 10]
        rw [← hq1, ← hq2] at HT
        have l1 : q1.length ≤ 100001 := by rw [hq1, List.length_append]; show 1 + _ ≤ _; omega
        have l2 : q2.length ≤ 100004 := by rw [hq2, List.length_append]; show _ + 3 ≤ _; omega
        have s0 := w_size D
        have s1 := w_size q1
        have s2 := w_size q2
        clear hq1 hq2
        by_cases h1 : (c.toNat : Int) < 32
        · clear hc hraw
          go_wp2_with (go_at_call 36; go_loud (((with_reducible refine cI.mono ?_); rintro e w1 ⟨rfl, h2⟩; have y1 := y.trans (h2.mono y.size))))
          go_ret
          exact ⟨by rw [HQ.out, ← HT.out, ← cat_l]; rfl, y1⟩
        · have h2 : (126 : Int) < (c.toNat : Int) := by
            unfold rawC at hraw
            rw [decide_eq_false (by omega), Bool.false_or, decide_eq_true_iff] at hraw
            omega
          clear hc hraw
          go_wp2_with (go_at_call 36; go_loud (((with_reducible refine cI.mono ?_); rintro e w1 ⟨rfl, h2⟩; have y1 := y.trans (h2.mono y.size))))
          go_ret
          exact ⟨by rw [HQ.out, ← HT.out, ← cat_l]; rfl, y1⟩
      | false =>
        have HR' := Lib.hid (raw_step hc HR.out hraw)
        have hst := soFar_step hc
        have h12 : ¬ (c.toNat : Int) < 32 ∧ ¬ (126 : Int) < (c.toNat : Int) := by
          unfold rawC at hraw
          rw [Bool.or_eq_false_iff, decide_eq_false_iff_not, decide_eq_false_iff_not] at hraw
          omega
        obtain ⟨h1, h2⟩ := h12
        clear hc hraw HR
        cases hw : soFar S i with
        | false =>
          rw [hw, Bool.false_and] at hst
          have HS := Lib.hid hst
          clear hst hw
          go_wp2_with fail
          go_roundg g'
          case measure => omega
          case rel => exact ⟨i + 1, by omega, by go_num, by rw [HS.out], y, HR'⟩
        | true =>
          rw [hw, Bool.true_and] at hst
          unfold okB at hst
          have cA1 := fun W => cA c W
          clear cA hw
          cases hat : atomB c with
          | false =>
            rw [hat, Bool.false_and] at hst
            rw [hat] at cA1
            have HS := Lib.hid hst
            clear hst hat
            go_wp2_with (go_at_call 22; go_loud (((with_reducible refine (cA1 _).mono ?_); rintro e w1 ⟨rfl, hw⟩; rw [hw]; clear hw)))
            go_roundg g'
            case measure => omega
            case rel => exact ⟨i + 1, by omega, by go_num, by rw [HS.out], y, HR'⟩
          | true =>
            rw [hat, Bool.true_and] at hst
            rw [hat] at cA1
            clear hat
            by_cases h92 : c = 92
            · obtain ⟨e92, n92⟩ : ((c.toNat : Int) == 92) = true ∧ ((c.toNat : Int) != 92) = false := byte_yes (c := c) (n := 92) (by decide) h92
              have HS : Hid (soFar S (i + 1) = false) := Lib.hid (by rw [hst, h92]; rfl)
              clear hst h92
              go_wp2_with (go_at_call 22; go_loud (((with_reducible refine (cA1 _).mono ?_); rintro e w1 ⟨rfl, hw⟩; rw [hw]; clear hw)))
              go_roundg g'
              case measure => omega
              case rel => exact ⟨i + 1, by omega, by go_num, by rw [HS.out], y, HR'⟩
            · obtain ⟨e92, n92⟩ : ((c.toNat : Int) == 92) = false ∧ ((c.toNat : Int) != 92) = true := byte_not (c := c) (n := 92) (by decide) h92
              have HS : Hid (soFar S (i + 1) = true) := Lib.hid (by rw [hst]; simpa using h92)
              clear hst h92
              go_wp2_with (go_at_call 22; go_loud (((with_reducible refine (cA1 _).mono ?_); rintro e w1 ⟨rfl, hw⟩; rw [hw]; clear hw)))
              go_roundg g'
              case measure => omega
              case rel => exact ⟨i + 1, by omega, by go_num, by rw [HS.out], y, HR'⟩
    · obtain rfl : i = S.length := by omega
      have HR2 : Hid (rawB S = false) := Lib.hid (by have := HR.out; rwa [List.take_length] at this)
      clear HR cA
      rw [soFar_all]
      cases hw : wordB S with
      | true =>
        have HW := Lib.hid hw
        clear hw
        go_wp2_with fail
        go_ret
        exact ⟨by rw [word_done HR2.out HW.out]; rfl, y⟩
      | false =>
        have HW := Lib.hid hw
        clear hw
        have hz := alloc_size wr (.cells #[.string ⟨#[92]⟩, .string ⟨#[92, 92]⟩, .string ⟨#[34]⟩, .string ⟨#[92, 34]⟩] 9)
        have ya := y.alloc y.size (.cells #[.string ⟨#[92]⟩, .string ⟨#[92, 92]⟩, .string ⟨#[34]⟩, .string ⟨#[92, 34]⟩] 9)
        have cN := newRep_any (.slice (some ⟨wr.heap.size, 0, none⟩) 4 4) 2 escTs _ (esc_row wr) rfl (by decide)
        have cR := fun R sv (W : World) hR hN (ho : W.ownsRow (wr.heap.size + 1) 9 1 sv escTs.length (escTs.map encStr)) => replace_any escP S R (wr.heap.size + 1) sv W hR hN ho (by decide) (by decide) (by decide) (by decide) hS
        rw [repF_esc] at cR
        rw [hz] at cN
        have hel := esc_len S
        have HE : Hid (34 :: (escL S ++ [34]) = quotedL S) := Lib.hid rfl
        generalize escL S = E at cR hel HE
        obtain ⟨q1, hq1⟩ : ∃ q1, q1 = [34] ++ E := ⟨_, rfl⟩
        have a1 : (⟨#[34]⟩ : ByteArray) ++ ⟨E.toArray⟩ = ⟨q1.toArray⟩ := by rw [hq1]; exact cat_l [34] E
        have HE2 : Hid (q1 ++ [34] = quotedL S) := Lib.hid (by rw [hq1, ← HE.out]; rfl)
        have l1 : q1.length ≤ 200001 := by rw [hq1, List.length_append]; show 1 + _ ≤ _; omega
        have s0 := w_size E
        have s1 := w_size q1
        clear hq1 HE
        go_wp2_with (first
          | (go_at_call 45; go_loud (((with_reducible refine cN.mono ?_); rintro e w1 ⟨R, sv, rfl, h1, h2, h3, h4⟩; have y1 := ya.trans (h4.mono (by have := y.size; omega)))))
          | (go_at_call 46; go_loud (((with_reducible refine (cR R sv w1 h2 h1 h3).mono ?_); rintro e w2 ⟨rfl, h5⟩; have y2 := y1.trans (h5.mono (by have := y.size; omega))))))
        go_ret
        exact ⟨by rw [quoted_done HR2.out HW.out, ← HE2.out, ← cat_l]; rfl, y2⟩
end Go.Proofs.YtbfndlmihijcgaaGreatDoor
