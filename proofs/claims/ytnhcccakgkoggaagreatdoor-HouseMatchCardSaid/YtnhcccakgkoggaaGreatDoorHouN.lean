/- The walk over the statement HouseMatch. Conditions: utf8's two tables, bytealg.MaxLen, errors.errorType lie as the program's text lays them. -/
import Derived.Test.YtnhcccakgkoggaaGreatDoorHouL
import Derived.Test.YtnhcccakgkoggaaGreatDoorPMatch3
namespace Go.Proofs.YtnhcccakgkoggaaGreatDoor
open Go.RowKit Go.Shelf Go.Sort Go.Maps
set_option linter.unusedSimpArgs false

theorem has_slash (x : Bs) (w : World) (hx : x.length ≤ 1000000) (hM : MaxL w) :
    Calls Tryz.prog 7 #[.string ⟨x.toArray⟩, .string ⟨#[47]⟩] w fun e w' => e = .returned (.bool (Lib.contains x [47])) ∧ w = w' := by
  obtain ⟨m, hm⟩ := hM
  exact (Tryz.strings_Contains ⟨x.toArray⟩ ⟨#[47]⟩ m w (by rw [text_size]; omega) hm).mono fun _ _ ⟨h1, h2⟩ => ⟨h1, h2.symm⟩
set_option maxRecDepth 100000 in
set_option maxHeartbeats 4000000 in
theorem around_any (p s : Bs) (w : World) (hp : p.length ≤ 100000) (hs : s.length ≤ 100000) (hM : MaxL w) :
    Calls Tryz.prog 9 #[.string ⟨p.toArray⟩, .string ⟨s.toArray⟩] w fun e w' => e = .returned (.bool (aroundB p s)) ∧ w = w' := by
  have tp := text_size p
  have ts := text_size s
  unfold aroundB
  obtain ⟨G, hG⟩ : ∃ G, s.length + 1 - p.length = G := ⟨_, rfl⟩
  rw [hG]
  obtain ⟨n, hn⟩ : ∃ n, s.length = n := ⟨_, rfl⟩
  obtain ⟨q, hq⟩ : ∃ q, p.length = q := ⟨_, rfl⟩
  rw [hn] at hG ts hs
  rw [hq] at hG tp hp
  obtain ⟨r, hr⟩ : ∃ r, fromB p s 0 G = r := ⟨_, rfl⟩
  rw [hr]
  have HN := Lib.hid hn
  have HQ := Lib.hid hq
  have HR := Lib.hid hr
  have HMX := Lib.hid hM
  clear hn hq hr hM
  go_enter Tryz.func9, Tryz.ntmps9
  go_wp2_with fail
  go_loopg [5] G (fun g s5 wr => ∃ i : Nat, i + g = G ∧ s5 = .int .i64 (i : Int) ∧ Hid (fromB p s i g = r) ∧ wr = w)
  case atStart => exact ⟨0, by omega, rfl, HR, rfl⟩
  case round =>
    obtain ⟨i, hi, rfl, HF, rfl⟩ := hrel
    by_cases hlt : i + q ≤ n
    · obtain ⟨g', rfl⟩ : ∃ g', gk = g' + 1 := ⟨gk - 1, by omega⟩
      have hf := HF.out
      rw [fromB] at hf
      unfold atB at hf
      rw [HQ.out] at hf
      obtain ⟨X, hX⟩ : ∃ X, (s.drop i).take q = X := ⟨_, rfl⟩
      obtain ⟨Y, hY⟩ : ∃ Y, s.take i = Y := ⟨_, rfl⟩
      obtain ⟨Z, hZ⟩ : ∃ Z, s.drop (i + q) = Z := ⟨_, rfl⟩
      have e1 : (⟨s.toArray⟩ : ByteArray).extract i (i + q) = ⟨X.toArray⟩ := by rw [text_part, ← hX, Nat.add_sub_cancel_left]
      have e2 : (⟨s.toArray⟩ : ByteArray).extract 0 i = ⟨Y.toArray⟩ := by rw [text_part, ← hY]; simp
      have e3 : (⟨s.toArray⟩ : ByteArray).extract (i + q) n = ⟨Z.toArray⟩ := by rw [text_part, ← hZ, List.take_of_length_le (by rw [List.length_drop, HN.out]; exact Nat.le_refl _)]
      have hYl : Y.length ≤ 1000000 := by rw [← hY, List.length_take]; omega
      have hZl : Z.length ≤ 1000000 := by rw [← hZ, List.length_drop, HN.out]; omega
      rw [hX, hY, hZ] at hf
      clear hX hY hZ
      have cY := has_slash Y wr hYl HMX.out
      have cZ := has_slash Z wr hZl HMX.out
      obtain ⟨bX, hbX⟩ : ∃ b, (X == p) = b := ⟨_, rfl⟩
      obtain ⟨bY, hbY⟩ : ∃ b, Lib.contains Y [47] = b := ⟨_, rfl⟩
      obtain ⟨bZ, hbZ⟩ : ∃ b, Lib.contains Z [47] = b := ⟨_, rfl⟩
      rw [hbY] at cY hf
      rw [hbZ] at cZ hf
      rw [hbX] at hf
      have hiz : (i : Int) + (q : Int) ≤ (n : Int) := by omega
      have HFF := Lib.hid hf
      clear hf hbY hbZ HF HR
      cases bX with
      | false =>
        have HX : Hid (fromB p s (i + 1) g' = r) := Lib.hid (by simpa using HFF.out)
        go_wp2_with fail
        go_roundg g'
        case measure => omega
        case rel => exact ⟨i + 1, by omega, by go_num, HX, rfl⟩
      | true =>
        cases bY with
        | true =>
          have HX : Hid (fromB p s (i + 1) g' = r) := Lib.hid (by simpa using HFF.out)
          go_wp2_with (go_at_call 7; ((with_reducible refine cY.mono ?_); rintro e w5 ⟨rfl, rfl⟩))
          go_roundg g'
          case measure => omega
          case rel => exact ⟨i + 1, by omega, by go_num, HX, rfl⟩
        | false =>
          cases bZ with
          | true =>
            have HX : Hid (fromB p s (i + 1) g' = r) := Lib.hid (by simpa using HFF.out)
            go_wp2_with (first
              | (go_at_call 7; ((with_reducible refine cY.mono ?_); rintro e w5 ⟨rfl, rfl⟩))
              | (go_at_call 7; ((with_reducible refine cZ.mono ?_); rintro e w5 ⟨rfl, rfl⟩)))
            go_roundg g'
            case measure => omega
            case rel => exact ⟨i + 1, by omega, by go_num, HX, rfl⟩
          | false =>
            have hrt : r = true := by rw [← HFF.out]; rfl
            subst hrt
            go_wp2_with (first
              | (go_at_call 7; ((with_reducible refine cY.mono ?_); rintro e w5 ⟨rfl, rfl⟩))
              | (go_at_call 7; ((with_reducible refine cZ.mono ?_); rintro e w5 ⟨rfl, rfl⟩)))
            go_ret
            exact ⟨rfl, rfl⟩
    · obtain rfl : gk = 0 := by omega
      have hrt : r = false := by rw [← HF.out]; rfl
      subst hrt
      have hnz : ¬ ((i : Int) + (q : Int) ≤ (n : Int)) := by omega
      go_wp2_with fail
      go_ret
      exact ⟨rfl, rfl⟩
end Go.Proofs.YtnhcccakgkoggaaGreatDoor
