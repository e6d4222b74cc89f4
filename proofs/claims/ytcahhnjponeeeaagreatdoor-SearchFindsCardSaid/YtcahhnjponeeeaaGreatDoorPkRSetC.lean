/- The walk over seq.Of. No condition beyond those each names. The walks over the reference's InSet, SetOf, and the laws' sameRanges. No condition beyond those each names. The walk over the reference's ParseSet: it returns the set that is read, or an error. Conditions: strconv's table of powers and its two errors, and bytealg.MaxLen, lie as the program's text lays them. -/
import Derived.BigQuiet
import Derived.Lib.SplitLaws
import Derived.Test.YtcahhnjponeeeaaGreatDoorPkKept
import Derived.Test.YtcahhnjponeeeaaGreatDoorPkSeqC
import Derived.Test.YtcahhnjponeeeaaGreatDoorPkHeldS
import Derived.Test.YtcahhnjponeeeaaGreatDoorPkSeqB
import Derived.Test.YtcahhnjponeeeaaGreatDoorPkRNum
namespace Go.Proofs.YtcahhnjponeeeaaGreatDoor
open Go.RowKit Go.Shelf Go.Sort
set_option linter.unusedSimpArgs false
/-- a slice of numbers -/
def IRow (W : World) (v : Value) (l : List Int) : Prop := ∃ ao cap, v = .slice ao l.length cap ∧ l.length ≤ cap ∧ cap ≤ 9223372036854775807 ∧ ∀ (j : Nat) (n : Int), l[j]? = some n → ∃ b off, ao = some ⟨b, off, none⟩ ∧ b < W.heap.size ∧ W.cell? ⟨b, off + j, none⟩ = some (.int .i64 n)
theorem IRow.below {W W' : World} {v : Value} {l : List Int} (h : IRow W v l) (hb : Below W.heap.size W W') : IRow W' v l := by
  obtain ⟨ao, cap, h1, h2, h3, h4⟩ := h
  refine ⟨ao, cap, h1, h2, h3, fun j r hj => ?_⟩
  obtain ⟨b, off, e1, e2, e3⟩ := h4 j r hj
  exact ⟨b, off, e1, Nat.lt_of_lt_of_le e2 hb.size, (hb.cell (p := ⟨b, off + j, none⟩) e2).trans e3⟩
end Go.Proofs.YtcahhnjponeeeaaGreatDoor
namespace Go.Proofs.YtcahhnjponeeeaaGreatDoor
open Go.RowKit Go.Shelf Go.Sort
set_option linter.unusedSimpArgs false
theorem in_two (a b n : Int) : (decide (min a b ≤ n) && decide (n ≤ max a b)) = ((decide (a ≤ n) && decide (n ≤ b)) || (decide (b ≤ n) && decide (n ≤ a))) := by
  rw [Bool.eq_iff_iff]
  simp only [Bool.and_eq_true, Bool.or_eq_true, decide_eq_true_eq]
  omega
set_option maxRecDepth 100000 in
set_option maxHeartbeats 8000000 in
theorem inSet_any (v : Value) (l : List Rg) (n gr : Int) (w : World) (hv : RgRow w v l) : Calls Tryz.prog 37 #[v, .int .i64 n, .int .i64 gr] w fun e w' => e = .returned (.bool (hasS l n gr)) ∧ Below w.heap.size w w' := by
  obtain ⟨ao, cap, rfl, hcap, hcm, hcell⟩ := hv
  have HC := Lib.hid hcell
  have hlm : l.length ≤ 9223372036854775807 := by omega
  clear hcell hcap hcm
  go_enter Tryz.func37, Tryz.ntmps37
  go_wp2_with fail
  go_loopg [11] l.length (fun g s11 wr => ∃ k : Nat, k + g = l.length ∧ s11 = .int .i64 (k : Int) ∧ Below w.heap.size w wr ∧ Hid ((l.take k).any (inR n gr) = false))
  case atStart => exact ⟨0, by omega, rfl, Below.refl _ _, Lib.hid rfl⟩
  case round =>
    obtain ⟨k, hk, rfl, hbr, HT⟩ := hrel
    by_cases hlt : k < l.length
    · obtain ⟨g', rfl⟩ : ∃ g', gk = g' + 1 := ⟨gk - 1, by omega⟩
      obtain ⟨r, hr⟩ : ∃ r, l[k]? = some r := ⟨l[k], List.getElem?_eq_getElem hlt⟩
      have htk : (l.take (k + 1)).any (inR n gr) = ((l.take k).any (inR n gr) || inR n gr r) := by rw [List.take_add_one, hr]; simp
      rw [HT.out, Bool.false_or] at htk
      obtain ⟨b, off, rfl, hb, c0, c1⟩ := HC.out k r hr
      have d0 := (hbr.cell (p := ⟨b, off + k * 2, none⟩) hb).trans c0
      have d1 := (hbr.cell (p := ⟨b, off + k * 2 + 1, none⟩) hb).trans c1
      have hltz : (k : Int) < (l.length : Int) := by omega
      have HX : Hid (inR n gr r = true → hasS l n gr = true) := Lib.hid (fun h => by
        unfold hasS; rw [List.any_eq_true]; exact ⟨r, List.mem_of_getElem? hr, h⟩)
      obtain ⟨a, c⟩ := r
      have hin : inR n gr (a, c) = (decide (min (if a = 0 then gr else a) (if c = 0 then gr else c) ≤ n) && decide (n ≤ max (if a = 0 then gr else a) (if c = 0 then gr else c))) := rfl
      rw [in_two] at hin
      have hz := alloc_size wr (.cells #[.int .i64 a, .int .i64 c] 100)
      dsimp only at d0 d1 ⊢
      clear c0 c1 hr
      by_cases h1 : a = 0
      · by_cases h2 : c = 0
        · rw [if_pos h1, if_pos h2] at hin
          subst h1
          subst h2
          have HYA := Lib.hid (hbr.alloc hbr.size (.cells #[.int .i64 gr, .int .i64 gr] 100))
          have cA := fun W => in_any n gr gr W
          generalize (decide (gr ≤ n) && decide (n ≤ gr)) = P1 at cA hin
          have cB := cA
          rw [Bool.or_self] at hin
          cases P1 with
          | true =>
            have HR := Lib.hid (HX.out hin)
            clear hin htk
            go_wp2_with (go_at_call 63; go_loud (((with_reducible refine (cA _).mono ?_); rintro e w0 ⟨rfl, rfl⟩)))
            go_ret
            exact ⟨by rw [HR.out]; rfl, HYA.out⟩
          | false =>
            have HT2 := Lib.hid (htk.trans hin)
            clear hin htk
            go_wp2_with (go_at_call 63; go_loud (((with_reducible refine (cA _).mono ?_); rintro e w0 ⟨rfl, rfl⟩)))
            go_roundg g'
            case measure => omega
            case rel => exact ⟨k + 1, by omega, by go_num, HYA.out, HT2⟩
        · rw [if_pos h1, if_neg h2] at hin
          subst h1
          have h2b : (c == 0) = false := by simpa using h2
          have HYA := Lib.hid (hbr.alloc hbr.size (.cells #[.int .i64 gr, .int .i64 c] 100))
          have cA := fun W => in_any n gr c W
          have cB := fun W => in_any n c gr W
          generalize (decide (gr ≤ n) && decide (n ≤ c)) = P1 at cA hin
          generalize (decide (c ≤ n) && decide (n ≤ gr)) = P2 at cB hin
          cases P1 with
          | true =>
            have HR := Lib.hid (HX.out (hin.trans (Bool.true_or _)))
            clear hin htk
            go_wp2_with (go_at_call 63; go_loud (((with_reducible refine (cA _).mono ?_); rintro e w0 ⟨rfl, rfl⟩)))
            go_ret
            exact ⟨by rw [HR.out]; rfl, HYA.out⟩
          | false =>
            cases P2 with
            | true =>
              have HR := Lib.hid (HX.out hin)
              clear hin htk
              go_wp2_with (first
                | (go_at_call 63; (with_reducible refine (cA _).mono ?_); rintro e w0 ⟨rfl, rfl⟩; clear cA)
                | (go_at_call 63; (with_reducible refine (cB _).mono ?_); rintro e w0 ⟨rfl, rfl⟩))
              go_ret
              exact ⟨by rw [HR.out]; rfl, HYA.out⟩
            | false =>
              have HT2 := Lib.hid (htk.trans hin)
              clear hin htk
              go_wp2_with (first
                | (go_at_call 63; (with_reducible refine (cA _).mono ?_); rintro e w0 ⟨rfl, rfl⟩; clear cA)
                | (go_at_call 63; (with_reducible refine (cB _).mono ?_); rintro e w0 ⟨rfl, rfl⟩))
              go_roundg g'
              case measure => omega
              case rel => exact ⟨k + 1, by omega, by go_num, HYA.out, HT2⟩
      · by_cases h2 : c = 0
        · rw [if_neg h1, if_pos h2] at hin
          have h1b : (a == 0) = false := by simpa using h1
          subst h2
          have HYA := Lib.hid (hbr.alloc hbr.size (.cells #[.int .i64 a, .int .i64 gr] 100))
          have cA := fun W => in_any n a gr W
          have cB := fun W => in_any n gr a W
          generalize (decide (a ≤ n) && decide (n ≤ gr)) = P1 at cA hin
          generalize (decide (gr ≤ n) && decide (n ≤ a)) = P2 at cB hin
          cases P1 with
          | true =>
            have HR := Lib.hid (HX.out (hin.trans (Bool.true_or _)))
            clear hin htk
            go_wp2_with (go_at_call 63; go_loud (((with_reducible refine (cA _).mono ?_); rintro e w0 ⟨rfl, rfl⟩)))
            go_ret
            exact ⟨by rw [HR.out]; rfl, HYA.out⟩
          | false =>
            cases P2 with
            | true =>
              have HR := Lib.hid (HX.out hin)
              clear hin htk
              go_wp2_with (first
                | (go_at_call 63; (with_reducible refine (cA _).mono ?_); rintro e w0 ⟨rfl, rfl⟩; clear cA)
                | (go_at_call 63; (with_reducible refine (cB _).mono ?_); rintro e w0 ⟨rfl, rfl⟩))
              go_ret
              exact ⟨by rw [HR.out]; rfl, HYA.out⟩
            | false =>
              have HT2 := Lib.hid (htk.trans hin)
              clear hin htk
              go_wp2_with (first
                | (go_at_call 63; (with_reducible refine (cA _).mono ?_); rintro e w0 ⟨rfl, rfl⟩; clear cA)
                | (go_at_call 63; (with_reducible refine (cB _).mono ?_); rintro e w0 ⟨rfl, rfl⟩))
              go_roundg g'
              case measure => omega
              case rel => exact ⟨k + 1, by omega, by go_num, HYA.out, HT2⟩
        · rw [if_neg h1, if_neg h2] at hin
          have h1b : (a == 0) = false := by simpa using h1
          have h2b : (c == 0) = false := by simpa using h2
          have HYA := Lib.hid (hbr.alloc hbr.size (.cells #[.int .i64 a, .int .i64 c] 100))
          have cA := fun W => in_any n a c W
          have cB := fun W => in_any n c a W
          generalize (decide (a ≤ n) && decide (n ≤ c)) = P1 at cA hin
          generalize (decide (c ≤ n) && decide (n ≤ a)) = P2 at cB hin
          cases P1 with
          | true =>
            have HR := Lib.hid (HX.out (hin.trans (Bool.true_or _)))
            clear hin htk
            go_wp2_with (go_at_call 63; go_loud (((with_reducible refine (cA _).mono ?_); rintro e w0 ⟨rfl, rfl⟩)))
            go_ret
            exact ⟨by rw [HR.out]; rfl, HYA.out⟩
          | false =>
            cases P2 with
            | true =>
              have HR := Lib.hid (HX.out hin)
              clear hin htk
              go_wp2_with (first
                | (go_at_call 63; (with_reducible refine (cA _).mono ?_); rintro e w0 ⟨rfl, rfl⟩; clear cA)
                | (go_at_call 63; (with_reducible refine (cB _).mono ?_); rintro e w0 ⟨rfl, rfl⟩))
              go_ret
              exact ⟨by rw [HR.out]; rfl, HYA.out⟩
            | false =>
              have HT2 := Lib.hid (htk.trans hin)
              clear hin htk
              go_wp2_with (first
                | (go_at_call 63; (with_reducible refine (cA _).mono ?_); rintro e w0 ⟨rfl, rfl⟩; clear cA)
                | (go_at_call 63; (with_reducible refine (cB _).mono ?_); rintro e w0 ⟨rfl, rfl⟩))
              go_roundg g'
              case measure => omega
              case rel => exact ⟨k + 1, by omega, by go_num, HYA.out, HT2⟩
    · have HA : Hid (hasS l n gr = false) := Lib.hid (by have := HT.out; rwa [List.take_of_length_le (by omega)] at this)
      go_wp2_with fail
      go_ret
      exact ⟨by rw [HA.out]; rfl, hbr⟩
set_option maxRecDepth 100000 in
set_option maxHeartbeats 4000000 in
theorem sameR_any (u v : Value) (l : List Rg) (w : World) (hu : RgRow w u l) (hv : RgRow w v l) : Calls Tryz.prog 19 #[u, v] w fun e w' => e = .returned (.bool true) ∧ Below w.heap.size w w' := by
  obtain ⟨ao, cap, rfl, hcap, hcm, hcell⟩ := hu
  obtain ⟨bo, cap2, rfl, hcap2, hcm2, hcell2⟩ := hv
  have HC := Lib.hid hcell
  have HD := Lib.hid hcell2
  have hlm : l.length ≤ 9223372036854775807 := by omega
  clear hcell hcell2 hcap hcm hcap2 hcm2
  go_enter Tryz.func19, Tryz.ntmps19
  go_wp2_with fail
  go_loopg [5] l.length (fun g s5 wr => ∃ k : Nat, k + g = l.length ∧ s5 = .int .i64 (k : Int) ∧ Below w.heap.size w wr)
  case atStart => exact ⟨0, by omega, rfl, Below.refl _ _⟩
  case round =>
    obtain ⟨k, hk, rfl, hbr⟩ := hrel
    by_cases hlt : k < l.length
    · obtain ⟨g', rfl⟩ : ∃ g', gk = g' + 1 := ⟨gk - 1, by omega⟩
      obtain ⟨r, hr⟩ : ∃ r, l[k]? = some r := ⟨l[k], List.getElem?_eq_getElem hlt⟩
      obtain ⟨b, off, rfl, hb, c0, c1⟩ := HC.out k r hr
      obtain ⟨b2, off2, rfl, hb2, e0, e1⟩ := HD.out k r hr
      have d0 := (hbr.cell (p := ⟨b, off + k * 2, none⟩) hb).trans c0
      have d1 := (hbr.cell (p := ⟨b, off + k * 2 + 1, none⟩) hb).trans c1
      have x0 := (hbr.cell (p := ⟨b2, off2 + k * 2, none⟩) hb2).trans e0
      have x1 := (hbr.cell (p := ⟨b2, off2 + k * 2 + 1, none⟩) hb2).trans e1
      have hltz : (k : Int) < (l.length : Int) := by omega
      clear c0 c1 e0 e1 hr
      go_wp2_with fail
      go_quiet (fail)
      go_wp2_with fail
      go_roundg g'
      case measure => omega
      case rel => exact ⟨k + 1, by omega, by go_num, below_drewN hbr _⟩
    · go_wp2_with fail
      go_ret
      exact ⟨rfl, hbr⟩
end Go.Proofs.YtcahhnjponeeeaaGreatDoor
namespace Go.Proofs.YtcahhnjponeeeaaGreatDoor
open Go.RowKit Go.Shelf Go.Sort
set_option linter.unusedSimpArgs false
theorem split_commas : ∀ (k : Nat) (s : Txt), s.count 44 = k → Lib.splitK [44] 0 k s = commas s
  | 0, s, h => by
    rw [commas_none (List.count_eq_zero.1 h)]; rfl
  | k + 1, s, h => by
    rcases index_byte s 44 with ⟨_, h2⟩ | ⟨i, h1, h2, h3, h4⟩
    · rw [List.count_eq_zero.2 h2] at h; omega
    · rw [Lib.splitK, if_neg (by rw [h1, beq_iff_eq]; omega), commas_next h1, h1]
      have hc : (s.drop (i + 1)).count 44 = k := by
        have e := congrArg (List.count 44) h3
        rw [List.count_append, List.count_cons, List.count_eq_zero.2 h4] at e
        simp at e
        omega
      have ih := split_commas k _ hc
      simp only [Int.toNat_natCast, Nat.add_zero, List.length_cons, List.length_nil, Nat.zero_add]
      rw [ih]
theorem splitS_any (S : Txt) (w : World) (hS : S.length ≤ 1000000) (hM : MaxG w) : Calls Tryz.prog 49 #[.string ⟨S.toArray⟩, .string ⟨#[44]⟩] w fun e w' => e = .returned (.slice (some ⟨w.heap.size, 0, none⟩) (commas S).length (commas S).length) ∧
      (∀ (j : Nat) p, (commas S)[j]? = some p → w'.cell? ⟨w.heap.size, j, none⟩ = some (.string ⟨p.toArray⟩)) ∧ w.heap.size < w'.heap.size ∧ Below w.heap.size w w' := by
  obtain ⟨m, hm⟩ := hM
  have e0 : Lib.split S [44] = commas S := by unfold Lib.split; exact split_commas _ _ (Lib.count_one 44 S).symm
  refine (Tryz.strings_Split ⟨S.toArray⟩ ⟨#[44]⟩ m w (by rw [text_size]; omega) hm (by decide)).mono ?_
  have hd : (Lib.splitB ⟨#[44]⟩ 0 (Lib.countB ⟨S.toArray⟩ ⟨#[44]⟩) ⟨S.toArray⟩).map (·.data.toList) = Lib.split S [44] := Lib.splitB_data _ _ _ _
  have hn : Lib.countB ⟨S.toArray⟩ ⟨#[44]⟩ + 1 = (Lib.split S [44]).length := by
    rw [← hd, List.length_map, Lib.splitB_all _ (by decide) 0 _ _ rfl]
  rw [e0] at hd hn
  rintro e w' ⟨rfl, rfl⟩
  refine ⟨by rw [hn], ?_, by simp, (Below.refl _ _).alloc (Nat.le_refl _) _⟩
  intro j p hj
  rw [← hd, List.getElem?_map] at hj
  obtain ⟨x, hx, rfl⟩ := Option.map_eq_some_iff.1 hj
  rw [World.cell?_alloc_at _ _ _ _ rfl, List.getElem?_toArray, List.getElem?_map, hx]
  rfl
/-- the pieces of a part of a set -/
theorem two_pieces (t : Txt) : (Lib.index t [58] < 0 ∧ Lib.splitK [58] 0 (min 2 (t.length + 1) - 1) t = [t]) ∨ (¬ Lib.index t [58] < 0 ∧ 1 ≤ t.length ∧ Lib.splitK [58] 0 (min 2 (t.length + 1) - 1) t = [(twoF t).1, (twoF t).2]) := by
  rcases index_byte t 58 with ⟨h1, _⟩ | ⟨i, h1, h2, _, _⟩
  · refine Or.inl ⟨by omega, ?_⟩
    cases hk : min 2 (t.length + 1) - 1 with
    | zero => rfl
    | succ k => rw [Lib.splitK, if_pos (by rw [h1]; rfl)]
  · refine Or.inr ⟨by omega, by omega, ?_⟩
    rw [show min 2 (t.length + 1) - 1 = 0 + 1 by omega, Lib.splitK, if_neg (by rw [h1, beq_iff_eq]; omega)]
    unfold twoF
    rw [if_neg (by omega), h1]
    simp only [Int.toNat_natCast, Nat.add_zero, List.length_cons, List.length_nil, Nat.zero_add]
    rfl
/-- SplitN of a part, at two -/
theorem splitN_any (t : Txt) (w : World) (ht : t.length ≤ 1000000) (hM : MaxG w) : Calls Tryz.prog 122 #[.string ⟨t.toArray⟩, .string ⟨#[58]⟩, .int .i64 2] w fun e w' => Below w.heap.size w w' ∧ w.heap.size < w'.heap.size ∧
      ((Lib.index t [58] < 0 ∧ (∃ c, 1 ≤ c ∧ e = .returned (.slice (some ⟨w.heap.size, 0, none⟩) 1 c)) ∧ w'.cell? ⟨w.heap.size, 0, none⟩ = some (.string ⟨t.toArray⟩)) ∨
       (¬ Lib.index t [58] < 0 ∧ (∃ c, 2 ≤ c ∧ e = .returned (.slice (some ⟨w.heap.size, 0, none⟩) 2 c)) ∧ w'.cell? ⟨w.heap.size, 0, none⟩ = some (.string ⟨(twoF t).1.toArray⟩) ∧ w'.cell? ⟨w.heap.size, 1, none⟩ = some (.string ⟨(twoF t).2.toArray⟩))) := by
  obtain ⟨m, hm⟩ := hM
  have hc := Tryz.strings_SplitN ⟨t.toArray⟩ ⟨#[58]⟩ 2 m w (by rw [text_size]; omega) hm (by decide) (by decide) (by decide)
  rw [text_size] at hc
  have hd : (Lib.splitB ⟨#[58]⟩ 0 (min 2 (t.length + 1) - 1) ⟨t.toArray⟩).map (·.data.toList) = Lib.splitK [58] 0 (min 2 (t.length + 1) - 1) t := Lib.splitB_data _ _ _ _
  refine hc.mono ?_
  rintro e w' ⟨rfl, rfl⟩
  have hin : ∀ (L : List ByteArray) (l : List Txt), L.map (·.data.toList) = l → L = l.map fun p => ⟨p.toArray⟩ := fun L l h => by
    subst h
    rw [List.map_map]
    conv => lhs; rw [← List.map_id L]
    rfl
  refine ⟨(Below.refl _ _).alloc (Nat.le_refl _) _, by simp, ?_⟩
  rcases two_pieces t with ⟨h1, h2⟩ | ⟨h1, h3, h2⟩
  · refine Or.inl ⟨h1, ?_⟩
    rw [h2] at hd
    rw [hin _ _ hd]
    refine ⟨⟨min 2 (t.length + 1), by omega, rfl⟩, ?_⟩
    rw [World.cell?_alloc_at _ _ _ _ rfl]
    unfold Lib.cellsOf
    simp
  · refine Or.inr ⟨h1, ?_⟩
    rw [h2] at hd
    rw [hin _ _ hd]
    refine ⟨⟨min 2 (t.length + 1), by omega, rfl⟩, ?_, ?_⟩
    · rw [World.cell?_alloc_at _ _ _ _ rfl]
      unfold Lib.cellsOf
      simp
    · rw [World.cell?_alloc_at _ _ _ _ rfl]
      unfold Lib.cellsOf
      simp
theorem owns_low {w : World} {B B' : Nat} {e : TypeId} {sz : Nat} {v : Value} {n : Nat} {xs : List Value} (h : w.ownsRow B e sz v n xs) (hB : B' ≤ B) : w.ownsRow B' e sz v n xs := by
  refine ⟨h.1, ?_⟩
  rcases h.2 with h2 | ⟨g, cap, cur, h1, h2, h3⟩
  · exact Or.inl h2
  · exact Or.inr ⟨g, cap, cur, h1, Nat.le_trans hB h2, h3⟩
theorem oneY {s : Txt} {x : Int} (h : numS s = some x) (hs : s.length ≤ 1000000) (W : World) (hG : StrG W) : Calls Tryz.prog 123 #[.string ⟨s.toArray⟩] W fun e w' => e = .returned (.tuple #[.int .i64 x, .bool true]) ∧ Below W.heap.size W w' :=
  (one_any s W (by omega) hG).mono fun e w' ⟨v, h1, h2, h3⟩ => ⟨by rw [h1, h, h2 x h]; rfl, h3⟩
theorem oneN {s : Txt} (h : numS s = none) (hs : s.length ≤ 1000000) (W : World) (hG : StrG W) : Calls Tryz.prog 123 #[.string ⟨s.toArray⟩] W fun e w' => ∃ v : Int, e = .returned (.tuple #[.int .i64 v, .bool false]) ∧ Below W.heap.size W w' :=
  (one_any s W (by omega) hG).mono fun e w' ⟨v, h1, h2, h3⟩ => ⟨v, by rw [h1, h]; rfl, h3⟩
theorem comma_len : ∀ (s : Txt) (p : Txt), p ∈ commas s → p.length ≤ s.length
  | [], p, h => by simp [commas] at h; subst h; exact Nat.le_refl _
  | c :: s, p, h => by
    have ih := comma_len s
    rw [commas] at h
    split at h
    · rcases List.mem_cons.1 h with rfl | h
      · exact Nat.zero_le _
      · have := ih p h; simp only [List.length_cons]; omega
    · split at h
      · rename_i h' t' he
        rcases List.mem_cons.1 h with rfl | h
        · have := ih h' (by rw [he]; exact List.mem_cons_self ..); simp only [List.length_cons]; omega
        · have := ih p (by rw [he]; exact List.mem_cons_of_mem _ h); simp only [List.length_cons]; omega
      · rename_i he; exact absurd he (commas_ne s)
theorem commas_len : ∀ s : Txt, (commas s).length ≤ s.length + 1
  | [] => by simp [commas]
  | c :: s => by
    have ih := commas_len s
    rw [commas]
    split
    · simp only [List.length_cons]; omega
    · split
      · rename_i he; rw [he] at ih; simp only [List.length_cons] at ih ⊢; omega
      · simp
/-- what the reference's ParseSet brings -/
def RefP (S : Txt) (w : World) (e : Ending) (w' : World) : Prop := match parseS S with
  | .error n => e = .returned (.tuple #[.slice none 0 0, .int .i64 (n : Int)]) ∧ Below w.heap.size w w'
  | .ok l => ∃ v, e = .returned (.tuple #[v, .int .i64 0]) ∧ w'.ownsRow w.heap.size 100 2 v l.length (rgCells l) ∧ Below w.heap.size w w'
theorem RefP.bad {S : Txt} {w w' : World} {e : Ending} {n : Nat} (h : parseS S = .error n) (he : e = .returned (.tuple #[.slice none 0 0, .int .i64 (n : Int)])) (hb : Below w.heap.size w w') : RefP S w e w' := by unfold RefP; rw [h]; exact ⟨he, hb⟩
theorem RefP.good {S : Txt} {w w' : World} {e : Ending} {l : List Rg} {v : Value} (h : parseS S = .ok l) (he : e = .returned (.tuple #[v, .int .i64 0])) (ho : w'.ownsRow w.heap.size 100 2 v l.length (rgCells l)) (hb : Below w.heap.size w w') : RefP S w e w' := by unfold RefP; rw [h]; exact ⟨v, he, ho, hb⟩
set_option maxRecDepth 100000 in
set_option maxHeartbeats 16000000 in
theorem parseSet_any (S : Txt) (w : World) (hS : S.length ≤ 1000000) (hG : StrG w) (hM : MaxG w) : Calls Tryz.prog 101 #[.string ⟨S.toArray⟩] w (RefP S w) := by
  have cS := splitS_any S w (by omega) hM
  have hcl := commas_len S
  have HLen := Lib.hid (comma_len S)
  have HPS : Hid (parseS S = setsF (commas S) []) := Lib.hid rfl
  have HG := Lib.hid (fun W (h : Below w.heap.size w W) => hG.below h)
  have HM := Lib.hid (fun W (h : Below w.heap.size w W) => hM.below h)
  generalize commas S = L at cS hcl HLen HPS
  clear hG hM
  go_enter Tryz.func101, Tryz.ntmps101
  go_wp2_with (go_at_call 49; go_loud (((with_reducible refine cS.mono ?_); rintro e ws ⟨rfl, hcell, hzs, ys⟩)))
  have HC := Lib.hid hcell
  have HY := Lib.hid ys
  clear hcell ys cS
  go_loopg [4, 6, 7, 8, 9, 10, 11, 15] L.length (fun g s4 s6 s7 s8 s9 s10 s11 s15 wr => ∃ (k : Nat) (acc : List Rg) (ov : Value), k + g = L.length ∧ s15 = .int .i64 (k : Int) ∧ ov = s4 ∧ wr.ownsRow ws.heap.size 100 2 ov acc.length (rgCells acc) ∧ Below ws.heap.size ws wr ∧ acc.length ≤ 20 ∧ Hid (setsF (L.take k) [] = .ok acc))
  case atStart => exact ⟨0, [], _, by omega, rfl, rfl, World.ownsRow_nil _ _ _ _, Below.refl _ _, Nat.zero_le _, Lib.hid rfl⟩
  case round =>
    obtain ⟨k, acc, ov, hk, rfl, rfl, hown, hbr, hacc, HF⟩ := hrel
    have yr := HY.out.trans (hbr.mono (Nat.le_of_lt hzs))
    by_cases hlt : k < L.length
    · obtain ⟨g', rfl⟩ : ∃ g', gk = g' + 1 := ⟨gk - 1, by omega⟩
      obtain ⟨x, hx⟩ : ∃ x, L[k]? = some x := ⟨L[k], List.getElem?_eq_getElem hlt⟩
      have htk : L.take (k + 1) = L.take k ++ [x] := by rw [List.take_add_one, hx]; rfl
      have hst := sets_snoc (L.take k) [x] [] acc HF.out
      rw [← htk, setsF] at hst
      have hbad := fun n (h : setsF (L.take (k + 1)) [] = .error n) => (show parseS S = .error n by rw [HPS.out, ← List.take_append_drop (k + 1) L]; exact sets_bad _ _ _ _ h)
      have c0 := HC.out k x hx
      have d0 := (hbr.cell (p := ⟨w.heap.size, k, none⟩) hzs).trans c0
      have hxl := HLen.out x (List.mem_of_getElem? hx)
      have hltz : (k : Int) < (L.length : Int) := by omega
      have cN := splitN_any x wr (by omega) (HM.out wr yr)
      have hpx := pair_two x
      obtain ⟨hAl, hBl⟩ := two_len x
      obtain ⟨oa, oc, rfl⟩ := owned_val hown
      have HO := Lib.hid hown
      have HB := Lib.hid hbr
      have HYR := Lib.hid yr
      have HBAD := Lib.hid hbad
      clear c0 hx htk hown hbr yr hbad
      by_cases hi : Lib.index x [58] < 0
      · rw [two_one hi] at hpx
        dsimp only at hpx
        have cN2 : Calls Tryz.prog 122 #[.string ⟨x.toArray⟩, .string ⟨#[58]⟩, .int .i64 2] wr fun e w' => ∃ c, 1 ≤ c ∧ e = .returned (.slice (some ⟨wr.heap.size, 0, none⟩) 1 c) ∧ w'.cell? ⟨wr.heap.size, 0, none⟩ = some (.string ⟨x.toArray⟩) ∧ wr.heap.size < w'.heap.size ∧ Below wr.heap.size wr w' := cN.mono fun e w' ⟨h1, h2, h3⟩ => by
          rcases h3 with ⟨_, ⟨c, hc, he⟩, h4⟩ | ⟨h4, _⟩
          · exact ⟨c, hc, he, h4, h2, h1⟩
          · exact absurd hi h4
        clear cN hi hAl hBl
        cases ha : numS x with
        | none =>
          have cA := oneN ha (by omega)
          have HS := Lib.hid (HBAD.out 3 (by rw [hst, hpx, ha]))
          clear ha hpx hst
          go_wp2_with (first
            | (go_at_call 122; go_loud (((with_reducible refine cN2.mono ?_); rintro e w1 ⟨c, hcc, rfl, q0, z1, y1⟩; have g1 := HG.out w1 (HYR.out.trans (y1.mono HYR.out.size)))))
            | (go_at_call 123; (with_reducible refine (cA w1 g1).mono ?_); rintro e w2 ⟨va, rfl, y2⟩; have y12 := y1.trans (y2.mono y1.size); have g2 := HG.out w2 (HYR.out.trans (y12.mono HYR.out.size)); have r0 := (y2.cell (p := ⟨wr.heap.size, 0, none⟩) z1).trans q0)
            | (go_at_call 123; (with_reducible refine (cA w2 g2).mono ?_); rintro e w3 ⟨vb, rfl, y3⟩; have y13 := y12.trans (y3.mono y12.size); have y03 := HYR.out.trans (y13.mono HYR.out.size); have o3 := owns_below HO.out y13))
          go_ret2
          exact RefP.bad HS.out rfl y03
        | some va =>
          have cA := oneY ha (by omega)
          by_cases h20 : acc.length = 20
          · have HS := Lib.hid (HBAD.out 4 (by rw [hst, hpx, ha]; dsimp only; rw [if_pos h20]))
            have h20z : (20 : Int) ≤ (acc.length : Int) := by omega
            clear ha hpx hst h20
            go_wp2_with (first
              | (go_at_call 122; go_loud (((with_reducible refine cN2.mono ?_); rintro e w1 ⟨c, hcc, rfl, q0, z1, y1⟩; have g1 := HG.out w1 (HYR.out.trans (y1.mono HYR.out.size)))))
              | (go_at_call 123; (with_reducible refine (cA w1 g1).mono ?_); rintro e w2 ⟨rfl, y2⟩; have y12 := y1.trans (y2.mono y1.size); have g2 := HG.out w2 (HYR.out.trans (y12.mono HYR.out.size)); have r0 := (y2.cell (p := ⟨wr.heap.size, 0, none⟩) z1).trans q0)
              | (go_at_call 123; (with_reducible refine (cA w2 g2).mono ?_); rintro e w3 ⟨rfl, y3⟩; have y13 := y12.trans (y3.mono y12.size); have y03 := HYR.out.trans (y13.mono HYR.out.size); have o3 := owns_below HO.out y13))
            go_ret2
            exact RefP.bad HS.out rfl y03
          · have HS : Hid (setsF (L.take (k + 1)) [] = .ok (acc ++ [(va, va)])) := Lib.hid (by rw [hst, hpx, ha]; dsimp only; rw [if_neg h20, setsF])
            have h20z : ¬ (20 : Int) ≤ (acc.length : Int) := by omega
            clear ha hpx hst
            go_wp2_with (first
              | (go_at_call 122; go_loud (((with_reducible refine cN2.mono ?_); rintro e w1 ⟨c, hcc, rfl, q0, z1, y1⟩; have g1 := HG.out w1 (HYR.out.trans (y1.mono HYR.out.size)))))
              | (go_at_call 123; (with_reducible refine (cA w1 g1).mono ?_); rintro e w2 ⟨rfl, y2⟩; have y12 := y1.trans (y2.mono y1.size); have g2 := HG.out w2 (HYR.out.trans (y12.mono HYR.out.size)); have r0 := (y2.cell (p := ⟨wr.heap.size, 0, none⟩) z1).trans q0)
              | (go_at_call 123; (with_reducible refine (cA w2 g2).mono ?_); rintro e w3 ⟨rfl, y3⟩; have y13 := y12.trans (y3.mono y12.size); have y03 := HYR.out.trans (y13.mono HYR.out.size); have o3 := owns_below HO.out y13)
              | (at_builtin; go_must (refine wpList_app2 rfl _ _ 29 rfl 100 Tryz.underlying29 rng_info rfl ws.heap.size _ _ _ _ rfl o3 (.int .i64 va) (.int .i64 va) rfl rfl rfl ?k1 (by decide) ?k2 ?_)))
            case k1 => omega
            case k2 => have := HB.out.size; have := y13.size; omega
            intro v' w4 ho hg hv'
            have o4 : w4.ownsRow ws.heap.size 100 2 v' (acc ++ [(va, va)]).length (rgCells (acc ++ [(va, va)])) := by
              rw [← rgCells_snoc, List.length_append]; exact ho
            have y4 := below_app2 (HB.out.trans (y13.mono HB.out.size)) (by have := HB.out.size; have := y13.size; omega) o3 hg
            have HO4 := Lib.hid o4
            clear ho hg o4 o3
            go_wp2_with fail
            go_roundg g'
            case measure => omega
            case rel => exact ⟨k + 1, acc ++ [(va, va)], _, by omega, by go_num, rfl, HO4.out, y4, by simp; omega, HS⟩
      · obtain ⟨A, hA⟩ : ∃ A, (twoF x).1 = A := ⟨_, rfl⟩
        obtain ⟨Bt, hB⟩ : ∃ B, (twoF x).2 = B := ⟨_, rfl⟩
        rw [hA, hB] at hpx cN
        rw [hA] at hAl
        rw [hB] at hBl
        have cN2 : Calls Tryz.prog 122 #[.string ⟨x.toArray⟩, .string ⟨#[58]⟩, .int .i64 2] wr fun e w' => ∃ c, 2 ≤ c ∧ e = .returned (.slice (some ⟨wr.heap.size, 0, none⟩) 2 c) ∧ w'.cell? ⟨wr.heap.size, 0, none⟩ = some (.string ⟨A.toArray⟩) ∧ w'.cell? ⟨wr.heap.size, 1, none⟩ = some (.string ⟨Bt.toArray⟩) ∧ wr.heap.size < w'.heap.size ∧ Below wr.heap.size wr w' := cN.mono fun e w' ⟨h1, h2, h3⟩ => by
          rcases h3 with ⟨h4, _⟩ | ⟨_, ⟨c, hc, he⟩, h4, h5⟩
          · exact absurd h4 hi
          · exact ⟨c, hc, he, h4, h5, h2, h1⟩
        clear cN hi hA hB
        cases ha : numS A with
        | none =>
          have cA := oneN ha (by omega)
          have HS := Lib.hid (HBAD.out 3 (by rw [hst, hpx, ha]))
          clear ha hpx hst
          cases hb : numS Bt with
          | none =>
            have cB := oneN hb (by omega)
            clear hb
            go_wp2_with (first
              | (go_at_call 122; go_loud (((with_reducible refine cN2.mono ?_); rintro e w1 ⟨c, hcc, rfl, q0, q1, z1, y1⟩; have g1 := HG.out w1 (HYR.out.trans (y1.mono HYR.out.size)))))
              | (go_at_call 123; (with_reducible refine (cA w1 g1).mono ?_); rintro e w2 ⟨va, rfl, y2⟩; have y12 := y1.trans (y2.mono y1.size); have g2 := HG.out w2 (HYR.out.trans (y12.mono HYR.out.size)); have r1 := (y2.cell (p := ⟨wr.heap.size, 1, none⟩) z1).trans q1)
              | (go_at_call 123; (with_reducible refine (cB w2 g2).mono ?_); rintro e w3 ⟨vb, rfl, y3⟩; have y13 := y12.trans (y3.mono y12.size); have y03 := HYR.out.trans (y13.mono HYR.out.size); have o3 := owns_below HO.out y13))
            go_ret2
            exact RefP.bad HS.out rfl y03
          | some vb =>
            have cB := oneY hb (by omega)
            clear hb
            go_wp2_with (first
              | (go_at_call 122; go_loud (((with_reducible refine cN2.mono ?_); rintro e w1 ⟨c, hcc, rfl, q0, q1, z1, y1⟩; have g1 := HG.out w1 (HYR.out.trans (y1.mono HYR.out.size)))))
              | (go_at_call 123; (with_reducible refine (cA w1 g1).mono ?_); rintro e w2 ⟨va, rfl, y2⟩; have y12 := y1.trans (y2.mono y1.size); have g2 := HG.out w2 (HYR.out.trans (y12.mono HYR.out.size)); have r1 := (y2.cell (p := ⟨wr.heap.size, 1, none⟩) z1).trans q1)
              | (go_at_call 123; (with_reducible refine (cB w2 g2).mono ?_); rintro e w3 ⟨rfl, y3⟩; have y13 := y12.trans (y3.mono y12.size); have y03 := HYR.out.trans (y13.mono HYR.out.size); have o3 := owns_below HO.out y13))
            go_ret2
            exact RefP.bad HS.out rfl y03
        | some va =>
          have cA := oneY ha (by omega)
          cases hb : numS Bt with
          | none =>
            have cB := oneN hb (by omega)
            have HS := Lib.hid (HBAD.out 3 (by rw [hst, hpx, ha, hb]))
            clear ha hb hpx hst
            go_wp2_with (first
              | (go_at_call 122; go_loud (((with_reducible refine cN2.mono ?_); rintro e w1 ⟨c, hcc, rfl, q0, q1, z1, y1⟩; have g1 := HG.out w1 (HYR.out.trans (y1.mono HYR.out.size)))))
              | (go_at_call 123; (with_reducible refine (cA w1 g1).mono ?_); rintro e w2 ⟨rfl, y2⟩; have y12 := y1.trans (y2.mono y1.size); have g2 := HG.out w2 (HYR.out.trans (y12.mono HYR.out.size)); have r1 := (y2.cell (p := ⟨wr.heap.size, 1, none⟩) z1).trans q1)
              | (go_at_call 123; (with_reducible refine (cB w2 g2).mono ?_); rintro e w3 ⟨vb, rfl, y3⟩; have y13 := y12.trans (y3.mono y12.size); have y03 := HYR.out.trans (y13.mono HYR.out.size); have o3 := owns_below HO.out y13))
            go_ret2
            exact RefP.bad HS.out rfl y03
          | some vb =>
            have cB := oneY hb (by omega)
            by_cases h20 : acc.length = 20
            · have HS := Lib.hid (HBAD.out 4 (by rw [hst, hpx, ha, hb]; dsimp only; rw [if_pos h20]))
              have h20z : (20 : Int) ≤ (acc.length : Int) := by omega
              clear ha hb hpx hst h20
              go_wp2_with (first
                | (go_at_call 122; go_loud (((with_reducible refine cN2.mono ?_); rintro e w1 ⟨c, hcc, rfl, q0, q1, z1, y1⟩; have g1 := HG.out w1 (HYR.out.trans (y1.mono HYR.out.size)))))
                | (go_at_call 123; (with_reducible refine (cA w1 g1).mono ?_); rintro e w2 ⟨rfl, y2⟩; have y12 := y1.trans (y2.mono y1.size); have g2 := HG.out w2 (HYR.out.trans (y12.mono HYR.out.size)); have r1 := (y2.cell (p := ⟨wr.heap.size, 1, none⟩) z1).trans q1)
                | (go_at_call 123; (with_reducible refine (cB w2 g2).mono ?_); rintro e w3 ⟨rfl, y3⟩; have y13 := y12.trans (y3.mono y12.size); have y03 := HYR.out.trans (y13.mono HYR.out.size); have o3 := owns_below HO.out y13))
              go_ret2
              exact RefP.bad HS.out rfl y03
            · have HS : Hid (setsF (L.take (k + 1)) [] = .ok (acc ++ [(va, vb)])) := Lib.hid (by rw [hst, hpx, ha, hb]; dsimp only; rw [if_neg h20, setsF])
              have h20z : ¬ (20 : Int) ≤ (acc.length : Int) := by omega
              clear ha hb hpx hst
              go_wp2_with (first
                | (go_at_call 122; go_loud (((with_reducible refine cN2.mono ?_); rintro e w1 ⟨c, hcc, rfl, q0, q1, z1, y1⟩; have g1 := HG.out w1 (HYR.out.trans (y1.mono HYR.out.size)))))
                | (go_at_call 123; (with_reducible refine (cA w1 g1).mono ?_); rintro e w2 ⟨rfl, y2⟩; have y12 := y1.trans (y2.mono y1.size); have g2 := HG.out w2 (HYR.out.trans (y12.mono HYR.out.size)); have r1 := (y2.cell (p := ⟨wr.heap.size, 1, none⟩) z1).trans q1)
                | (go_at_call 123; (with_reducible refine (cB w2 g2).mono ?_); rintro e w3 ⟨rfl, y3⟩; have y13 := y12.trans (y3.mono y12.size); have y03 := HYR.out.trans (y13.mono HYR.out.size); have o3 := owns_below HO.out y13)
                | (at_builtin; go_must (refine wpList_app2 rfl _ _ 29 rfl 100 Tryz.underlying29 rng_info rfl ws.heap.size _ _ _ _ rfl o3 (.int .i64 va) (.int .i64 vb) rfl rfl rfl ?k1 (by decide) ?k2 ?_)))
              case k1 => omega
              case k2 => have := HB.out.size; have := y13.size; omega
              intro v' w4 ho hg hv'
              have o4 : w4.ownsRow ws.heap.size 100 2 v' (acc ++ [(va, vb)]).length (rgCells (acc ++ [(va, vb)])) := by
                rw [← rgCells_snoc, List.length_append]; exact ho
              have y4 := below_app2 (HB.out.trans (y13.mono HB.out.size)) (by have := HB.out.size; have := y13.size; omega) o3 hg
              have HO4 := Lib.hid o4
              clear ho hg o4 o3
              go_wp2_with fail
              go_roundg g'
              case measure => omega
              case rel => exact ⟨k + 1, acc ++ [(va, vb)], _, by omega, by go_num, rfl, HO4.out, y4, by simp; omega, HS⟩
    · have HS : Hid (parseS S = .ok acc) := Lib.hid (by have := HF.out; rw [List.take_of_length_le (by omega)] at this; rw [HPS.out]; exact this)
      have ho : wr.ownsRow w.heap.size 100 2 ov acc.length (rgCells acc) := owns_low hown (Nat.le_of_lt hzs)
      go_wp2_with fail
      go_ret2
      exact RefP.good HS.out rfl ho yr
end Go.Proofs.YtcahhnjponeeeaaGreatDoor
