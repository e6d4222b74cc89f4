/- The walks over the reference's Num, one, Ranges, InSet. Conditions: strconv's table of powers and its two errors lie as the program's text lays them. The walk over the reference's Num at a bound of 2^62: if it says yes the number is from 0 to there. Conditions: strconv's table of powers and its two errors lie as the program's text lays them. -/
import Derived.Test.YtcahhnjponeeeaaGreatDoorPkCmdD
import Derived.Test.YtcahhnjponeeeaaGreatDoorPkSplitB
import Derived.Test.YtcahhnjponeeeaaGreatDoorPkSeqC
namespace Go.Proofs.YtcahhnjponeeeaaGreatDoor
open Go.RowKit Go.Shelf Go.Sort
set_option linter.unusedSimpArgs false
/-- what Num returns -/
def numN (s : Txt) : Option Int := match Lib.atoiAll s with
  | .ok v => if 0 ≤ v ∧ v ≤ 2147483647 ∧ Lib.itoa v = s then some v else none
  | _ => none
def NumN (s : Txt) (w : World) (e : Ending) (w' : World) : Prop := ∃ v : Int, e = .returned (.tuple #[.int .i64 v, .bool (numN s).isSome]) ∧ (∀ x, numN s = some x → v = x) ∧ Below w.heap.size w w'
theorem NumN.yes {s : Txt} {v : Int} {w w' : World} {e : Ending} (h : numN s = some v) (he : e = .returned (.tuple #[.int .i64 v, .bool true])) (hb : Below w.heap.size w w') : NumN s w e w' := ⟨v, by rw [h]; exact he, (fun x hx => by rw [h] at hx; exact Option.some.inj hx), hb⟩
theorem NumN.no {s : Txt} {v : Int} {w w' : World} {e : Ending} (h : numN s = none) (he : e = .returned (.tuple #[.int .i64 v, .bool false])) (hb : Below w.heap.size w w') : NumN s w e w' := ⟨v, by rw [h]; exact he, (fun x hx => by rw [h] at hx; cases hx), hb⟩
set_option maxRecDepth 100000 in
set_option maxHeartbeats 4000000 in
theorem num_any (s : Txt) (w : World) (hs : s.length ≤ 2000000) (hG : StrG w) :
    Calls Tryz.prog 68 #[.string ⟨s.toArray⟩, .int .i64 2147483647] w (NumN s w) := by
  have hn : numN s = match Lib.atoiAll s with | .ok v => if 0 ≤ v ∧ v ≤ 2147483647 ∧ Lib.itoa v = s then some v else none | _ => none := rfl
  cases ha : Lib.atoiAll s with
  | ok v =>
    rw [ha] at hn
    dsimp only at hn
    have cA := atoi_yes s v w ha hs
    have cIn := fun W => in_any v 0 2147483647 W
    clear ha
    by_cases h12 : 0 ≤ v ∧ v ≤ 2147483647
    · obtain ⟨h1, h2⟩ := h12
      have cI := fun W hW => itoa_any v W (by omega) (by omega) hW
      rw [decide_eq_true h1, decide_eq_true h2] at cIn
      simp only [Bool.and_self] at cIn
      obtain ⟨D, hD⟩ : ∃ D, Lib.itoa v = D := ⟨_, rfl⟩
      rw [hD] at cI hn
      by_cases h3 : D = s
      · subst h3
        have HN : Hid (numN D = some v) := Lib.hid (by rw [hn, if_pos ⟨h1, h2, rfl⟩])
        clear hn hD
        go_enter Tryz.func68, Tryz.ntmps68
        go_wp2_with (first
          | (go_at_call 98; go_loud (((with_reducible refine cA.mono ?_); rintro e w1 ⟨rfl, y1⟩; have cI1 := cI w1 (hG.below y1))))
          | (go_at_call 63; go_loud (((with_reducible refine (cIn _).mono ?_); rintro e w0 ⟨rfl, rfl⟩)))
          | (go_at_call 99; go_loud (((with_reducible refine cI1.mono ?_); rintro e w2 ⟨rfl, y2⟩))))
        go_ret2
        exact NumN.yes HN.out rfl (y1.trans (y2.mono y1.size))
      · have hDs : (D == s) = false := by simpa using h3
        have HN : Hid (numN s = none) := Lib.hid (by rw [hn, if_neg (fun h => h3 h.2.2)])
        clear hn hD h3
        go_enter Tryz.func68, Tryz.ntmps68
        go_wp2_with (first
          | (go_at_call 98; go_loud (((with_reducible refine cA.mono ?_); rintro e w1 ⟨rfl, y1⟩; have cI1 := cI w1 (hG.below y1))))
          | (go_at_call 63; go_loud (((with_reducible refine (cIn _).mono ?_); rintro e w0 ⟨rfl, rfl⟩)))
          | (go_at_call 99; go_loud (((with_reducible refine cI1.mono ?_); rintro e w2 ⟨rfl, y2⟩))))
        go_ret2
        exact NumN.no HN.out rfl (y1.trans (y2.mono y1.size))
    · have HN : Hid (numN s = none) := Lib.hid (by rw [hn, if_neg (fun h => h12 ⟨h.1, h.2.1⟩)])
      have hf : (decide (0 ≤ v) && decide (v ≤ 2147483647)) = false := by rw [← Bool.decide_and]; exact decide_eq_false h12
      rw [hf] at cIn
      clear hn h12 hf
      go_enter Tryz.func68, Tryz.ntmps68
      go_wp2_with (first
        | (go_at_call 98; go_loud (((with_reducible refine cA.mono ?_); rintro e w1 ⟨rfl, y1⟩)))
        | (go_at_call 63; go_loud (((with_reducible refine (cIn _).mono ?_); rintro e w0 ⟨rfl, rfl⟩))))
      go_ret2
      exact NumN.no HN.out rfl y1
  | _ =>
    rw [ha] at hn
    have HN : Hid (numN s = none) := Lib.hid hn
    have cA := atoi_no s w (fun v => by rw [ha]; intro h; cases h) hs hG
    clear hn ha
    go_enter Tryz.func68, Tryz.ntmps68
    go_wp2_with (go_at_call 98; go_loud (((with_reducible refine cA.mono ?_); rintro e w1 ⟨n, N, rfl, y1⟩)))
    go_ret2
    exact NumN.no HN.out rfl y1
theorem numS_numN {s : Txt} (h : s ≠ [42]) : numS s = match numN s with
    | some v => if 0 < v then some v else none
    | none => none := by
  unfold numS numN
  rw [if_neg h]
  cases Lib.atoiAll s with
  | ok v =>
    dsimp only
    unfold oneF
    by_cases h1 : 1 ≤ v ∧ v ≤ 2147483647 ∧ Lib.itoa v = s
    · rw [if_pos h1, if_pos ⟨by omega, h1.2⟩]; dsimp only; rw [if_pos (by omega)]
    · rw [if_neg h1]
      by_cases h2 : 0 ≤ v ∧ v ≤ 2147483647 ∧ Lib.itoa v = s
      · rw [if_pos h2]; dsimp only; rw [if_neg (fun h3 => h1 ⟨by omega, h2.2⟩)]
      · rw [if_neg h2]
  | _ => rfl
set_option maxRecDepth 100000 in
set_option maxHeartbeats 4000000 in
theorem one_any (s : Txt) (w : World) (hs : s.length ≤ 2000000) (hG : StrG w) :
    Calls Tryz.prog 123 #[.string ⟨s.toArray⟩] w (NumR s w) := by
  by_cases h42 : s = [42]
  · subst h42
    have hb : ((⟨[42].toArray⟩ : ByteArray) == ⟨#[42]⟩) = true := by decide
    go_enter Tryz.func123, Tryz.ntmps123
    go_wp2_with fail
    go_ret2
    exact NumR.yes rfl rfl (Below.refl _ _)
  have hsb : (s == [42]) = false := by simpa using h42
  have hnn := numS_numN h42
  have cN := num_any s w hs hG
  unfold NumN at cN
  cases hq : numN s with
  | none =>
    rw [hq] at cN hnn
    dsimp only at hnn
    have HN := Lib.hid hnn
    simp only [Option.isSome_none] at cN
    clear hq hnn h42
    go_enter Tryz.func123, Tryz.ntmps123
    go_wp2_with (go_at_call 68; go_loud (((with_reducible refine cN.mono ?_); rintro e w1 ⟨v, rfl, -, y1⟩)))
    go_ret2
    exact NumR.no HN.out rfl y1
  | some x =>
    rw [hq] at cN hnn
    dsimp only at hnn
    simp only [Option.isSome_some] at cN
    have cN2 : Calls Tryz.prog 68 #[.string ⟨s.toArray⟩, .int .i64 2147483647] w fun e w' => e = .returned (.tuple #[.int .i64 x, .bool true]) ∧ Below w.heap.size w w' := cN.mono fun e w' ⟨v, h1, h2, h3⟩ => ⟨by rw [h1, h2 x rfl], h3⟩
    clear cN hq h42
    by_cases h0 : 0 < x
    · have HN : Hid (numS s = some x) := Lib.hid (by rw [hnn, if_pos h0])
      clear hnn
      go_enter Tryz.func123, Tryz.ntmps123
      go_wp2_with (go_at_call 68; go_loud (((with_reducible refine cN2.mono ?_); rintro e w1 ⟨rfl, y1⟩)))
      go_ret2
      exact NumR.yes HN.out rfl y1
    · have HN : Hid (numS s = none) := Lib.hid (by rw [hnn, if_neg h0])
      clear hnn
      go_enter Tryz.func123, Tryz.ntmps123
      go_wp2_with (go_at_call 68; go_loud (((with_reducible refine cN2.mono ?_); rintro e w1 ⟨rfl, y1⟩)))
      go_ret2
      exact NumR.no HN.out (by show Ending.returned (.tuple #[.int .i64 x, .bool (decide (0 < x))]) = _; rw [decide_eq_false (by omega)]) y1
end Go.Proofs.YtcahhnjponeeeaaGreatDoor
namespace Go.Proofs.YtcahhnjponeeeaaGreatDoor
open Go.RowKit Go.Shelf Go.Sort
set_option maxRecDepth 100000 in
set_option maxHeartbeats 4000000 in
theorem numM_any (s : List UInt8) (w : World) (hs : s.length ≤ 2000000) (hG : StrG w) :
    Calls Tryz.prog 68 #[.string ⟨s.toArray⟩, .int .i64 4611686018427387904] w fun e w' => ∃ (v : Int) (b : Bool), e = .returned (.tuple #[.int .i64 v, .bool b]) ∧ (b = true → 0 ≤ v ∧ v ≤ 4611686018427387904) ∧ Below w.heap.size w w' := by
  cases ha : Lib.atoiAll s with
  | ok v =>
    have cA := atoi_yes s v w ha hs
    have cIn := fun W => in_any v 0 4611686018427387904 W
    clear ha
    by_cases h12 : 0 ≤ v ∧ v ≤ 4611686018427387904
    · obtain ⟨h1, h2⟩ := h12
      have cI := fun W hW => itoa_any v W h1 h2 hW
      rw [decide_eq_true h1, decide_eq_true h2] at cIn
      simp only [Bool.and_self] at cIn
      obtain ⟨D, hD⟩ : ∃ D, Lib.itoa v = D := ⟨_, rfl⟩
      rw [hD] at cI
      have HB : Hid (0 ≤ v ∧ v ≤ 4611686018427387904) := Lib.hid ⟨h1, h2⟩
      clear hD h1 h2
      go_enter Tryz.func68, Tryz.ntmps68
      go_wp2_with (first
        | (go_at_call 98; go_loud (((with_reducible refine cA.mono ?_); rintro e w1 ⟨rfl, y1⟩; have cI1 := cI w1 (hG.below y1))))
        | (go_at_call 63; go_loud (((with_reducible refine (cIn _).mono ?_); rintro e w0 ⟨rfl, rfl⟩)))
        | (go_at_call 99; go_loud (((with_reducible refine cI1.mono ?_); rintro e w2 ⟨rfl, y2⟩))))
      go_ret2
      exact ⟨_, _, rfl, fun _ => HB.out, y1.trans (y2.mono y1.size)⟩
    · have hf : (decide (0 ≤ v) && decide (v ≤ 4611686018427387904)) = false := by rw [← Bool.decide_and]; exact decide_eq_false h12
      rw [hf] at cIn
      clear h12 hf
      go_enter Tryz.func68, Tryz.ntmps68
      go_wp2_with (first
        | (go_at_call 98; go_loud (((with_reducible refine cA.mono ?_); rintro e w1 ⟨rfl, y1⟩)))
        | (go_at_call 63; go_loud (((with_reducible refine (cIn _).mono ?_); rintro e w0 ⟨rfl, rfl⟩))))
      go_ret2
      exact ⟨_, false, rfl, (fun h => by cases h), y1⟩
  | _ =>
    have cA := atoi_no s w (fun v => by rw [ha]; intro h; cases h) hs hG
    clear ha
    go_enter Tryz.func68, Tryz.ntmps68
    go_wp2_with (go_at_call 98; go_loud (((with_reducible refine cA.mono ?_); rintro e w1 ⟨n, N, rfl, y1⟩)))
    go_ret2
    exact ⟨_, false, rfl, (fun h => by cases h), y1⟩
end Go.Proofs.YtcahhnjponeeeaaGreatDoor
