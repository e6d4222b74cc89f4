/- The walk over wire.Next: it returns what the plain function says. Conditions: strconv's table of powers and its two errors, and bytealg.MaxLen, lie as the program's text lays them. -/
import Derived.Test.YtbfndlmihijcgaaGreatDoorWireA
namespace Go.Proofs.YtbfndlmihijcgaaGreatDoor
open Go.RowKit Go.Shelf

structure WireG (w : World) : Prop where
  str : StrG w
  max : ∃ m, w.cell? ⟨0, 0, none⟩ = some (.int .i64 m)
theorem WireG.below {w w' : World} (h : WireG w) (hb : Below w.heap.size w w') : WireG w' := by
  refine ⟨h.str.below hb, ?_⟩
  obtain ⟨m, hm⟩ := h.max
  refine ⟨m, (hb.cell (p := ⟨_, 0, none⟩) ?_).trans hm⟩
  rcases Nat.lt_or_ge 0 w.heap.size with h' | h'
  · exact h'
  · simp [World.cell?, Array.getElem?_eq_none h'] at hm
theorem index_l (l : List UInt8) (w : World) (hl : l.length ≤ 1000000) (hG : WireG w) :
    Calls Tryz.prog 19 #[.string ⟨l.toArray⟩, .string ⟨#[13, 10]⟩] w fun e w' => e = .returned (.int .i64 (Lib.index l [13, 10])) ∧ w' = w := by
  obtain ⟨m, hm⟩ := hG.max
  exact Tryz.strings_Index ⟨l.toArray⟩ ⟨#[13, 10]⟩ m w (by rw [w_size]; omega) hm

def errW (b : Bool) : Value := if b then .iface 46 (.int .i64 4) else .nilIface

set_option maxRecDepth 100000 in
set_option maxHeartbeats 8000000 in
theorem next_any (S : List UInt8) (w : World) (hS : S.length ≤ 100000) (hG : WireG w) :
    Calls Tryz.prog 8 #[.string ⟨S.toArray⟩] w fun e w' => e = .returned (.tuple #[.int .i64 (nextF S (S.length + 1) 0 0).1, .int .i64 (nextF S (S.length + 1) 0 0).2.1, errW (nextF S (S.length + 1) 0 0).2.2]) ∧ Below w.heap.size w w' := by
  have hts := w_size S
  obtain ⟨R, hR⟩ : ∃ R, nextF S (S.length + 1) 0 0 = R := ⟨_, rfl⟩
  rw [hR]
  have HR := Lib.hid hR
  clear hR
  go_enter Tryz.func8, Tryz.ntmps8
  go_wp2_with fail
  go_loopg [3, 5] (S.length + 1) (fun g s3 s5 wr => ∃ (f a q : Nat), s5 = .int .i64 a ∧ s3 = .int .i64 q ∧ a ≤ S.length ∧ q ≤ a ∧ S.length + 1 ≤ a + g ∧ Below w.heap.size w wr ∧ S.length + 1 ≤ a + f ∧ Hid (nextF S f a q = R))
  case atStart => exact ⟨S.length + 1, 0, 0, rfl, rfl, by omega, by omega, by omega, Below.refl _ _, by omega, HR.out⟩
  case round =>
    obtain ⟨f, a, q, rfl, rfl, ha, hq, hg, y, hfu, Hf⟩ := hrel
    obtain ⟨f', rfl⟩ : ∃ f', f = f' + 1 := ⟨f - 1, by omega⟩
    have hGr := hG.below y
    have hx1 : (⟨S.toArray⟩ : ByteArray).extract a S.length = ⟨(S.drop a).toArray⟩ := by rw [w_part]; congr 2; rw [List.take_of_length_le (by simp)]
    have hdl : (S.drop a).length = S.length - a := by simp
    have cI := index_l (S.drop a) wr (by omega) hGr
    rw [← hx1] at cI
    have hroom := Lib.index_room (S.drop a) [13, 10]
    have hge := Lib.index_ge (S.drop a) [13, 10]
    obtain ⟨K, hK⟩ : ∃ K, Lib.index (S.drop a) [13, 10] = K := ⟨_, rfl⟩
    rw [hK] at cI hroom hge
    clear hx1
    by_cases hk : K < 0
    · have hn := next_none (S := S) (f := f') (a := a) (w := q) (by rw [hK]; exact hk)
      have HX : Hid ((0, q, decide (3000 < S.length)) = R) := hn.symm.trans Hf.out
      clear hn hroom hge hK
      by_cases h3 : (3000 : Int) < (S.length : Int)
      · have hd : decide (3000 < S.length) = true := by simp; omega
        have HX2 : Hid ((0, q, true) = R) := by rw [← hd]; exact HX
        clear hd HX
        go_wp2_with (go_at_call 19; with_reducible refine cI.mono ?_; rintro e w1 ⟨rfl, hw⟩; rw [hw]; clear hw)
        go_ret3
        exact ⟨by rw [← HX2.out]; rfl, y⟩
      · have hd : decide (3000 < S.length) = false := by simp; omega
        have HX2 : Hid ((0, q, false) = R) := by rw [← hd]; exact HX
        clear hd HX
        go_wp2_with (go_at_call 19; with_reducible refine cI.mono ?_; rintro e w1 ⟨rfl, hw⟩; rw [hw]; clear hw)
        go_ret3
        exact ⟨by rw [← HX2.out]; rfl, y⟩
    · obtain ⟨k, rfl⟩ := Int.eq_ofNat_of_zero_le (show 0 ≤ K by omega)
      have hkr : a + k + 2 ≤ S.length := by have := hroom (by omega); simp at this; omega
      have hx2 : (⟨S.toArray⟩ : ByteArray).extract a (a + k) = ⟨((S.drop a).take k).toArray⟩ := by rw [w_part, Nat.add_sub_cancel_left]
      have cL := literal_any ((S.drop a).take k) wr (by simp; omega) hGr.str
      rw [← hx2] at cL
      have z1 : ((a : Int) + (k : Int)).toNat = a + k := by omega
      have z2 : (a : Int) ≤ (a : Int) + (k : Int) := by omega
      have z3 : (a : Int) + (k : Int) ≤ (S.length : Int) := by omega
      have hend := fun h => next_end (S := S) (f := f') (a := a) (w := q) hK h
      have hmore := fun m h => next_more (S := S) (f := f') (a := a) (w := q) (m := m) hK h
      have hneg := fun v (h : litF ((S.drop a).take k) = some v) => lit_neg h
      generalize litF ((S.drop a).take k) = L at cL hend hmore hneg
      clear hx2 hroom hge hK
      cases L with
      | none =>
        have HX := Lib.hid ((hend rfl).symm.trans Hf.out)
        clear hend hmore hneg
        by_cases h3 : (3000 : Int) < (a : Int) + ((k : Int) + 2)
        · have HX2 : Hid ((0, q, true) = R) := by
            have := HX.out
            rwa [if_pos (by omega)] at this
          clear HX
          go_wp2_with (first
            | (go_at_call 19; with_reducible refine cI.mono ?_; rintro e w1 ⟨rfl, hw⟩; rw [hw]; clear hw)
            | (go_at_call 20; with_reducible refine cL.mono ?_; rintro e w1 ⟨rfl, hb1⟩))
          go_ret3
          exact ⟨by rw [← HX2.out]; rfl, y.trans (hb1.mono y.size)⟩
        · have HX2 : Hid ((a + k + 2, q, false) = R) := by
            have := HX.out
            rwa [if_neg (by omega)] at this
          clear HX
          go_wp2_with (first
            | (go_at_call 19; with_reducible refine cI.mono ?_; rintro e w1 ⟨rfl, hw⟩; rw [hw]; clear hw)
            | (go_at_call 20; with_reducible refine cL.mono ?_; rintro e w1 ⟨rfl, hb1⟩))
          go_ret3
          refine ⟨?_, y.trans (hb1.mono y.size)⟩
          rw [← HX2.out]
          have e1 : ((a + k + 2 : Nat) : Int) = (a : Int) + ((k : Int) + 2) := by omega
          rw [e1]; rfl
      | some v =>
        obtain ⟨hv0, hv1⟩ := hneg v rfl
        obtain ⟨m, rfl⟩ := Int.eq_ofNat_of_zero_le hv0
        have HX := Lib.hid ((hmore m rfl).symm.trans Hf.out)
        clear hend hmore hneg
        simp only [Option.getD_some] at cL
        have hmz : (m : Int) ≤ 4611686018427387904 := hv1
        by_cases h1 : (3000 : Int) < (m : Int)
        · have HX2 : Hid ((0, q, true) = R) := by
            have := HX.out
            rwa [if_pos (by omega)] at this
          clear HX
          go_wp2_with (first
          | (go_at_call 19; with_reducible refine cI.mono ?_; rintro e w1 ⟨rfl, hw⟩; rw [hw]; clear hw)
          | (go_at_call 20; with_reducible refine cL.mono ?_; rintro e w1 ⟨rfl, hb1⟩))
          go_ret3
          exact ⟨by rw [← HX2.out]; rfl, y.trans (hb1.mono y.size)⟩
        · by_cases h2 : (3000 : Int) < (a : Int) + ((k : Int) + 2) + (m : Int)
          · have HX2 : Hid ((0, q, true) = R) := by
              have := HX.out
              rwa [if_pos (by omega)] at this
            clear HX
            go_wp2_with (first
          | (go_at_call 19; with_reducible refine cI.mono ?_; rintro e w1 ⟨rfl, hw⟩; rw [hw]; clear hw)
          | (go_at_call 20; with_reducible refine cL.mono ?_; rintro e w1 ⟨rfl, hb1⟩))
            go_ret3
            exact ⟨by rw [← HX2.out]; rfl, y.trans (hb1.mono y.size)⟩
          · by_cases h3 : (S.length : Int) < (a : Int) + ((k : Int) + 2) + (m : Int)
            · have HX2 : Hid ((0, q + 1, false) = R) := by
                have := HX.out
                rwa [if_neg (by omega), if_pos (by omega)] at this
              clear HX
              go_wp2_with (first
          | (go_at_call 19; with_reducible refine cI.mono ?_; rintro e w1 ⟨rfl, hw⟩; rw [hw]; clear hw)
          | (go_at_call 20; with_reducible refine cL.mono ?_; rintro e w1 ⟨rfl, hb1⟩))
              go_ret3
              exact ⟨by rw [← HX2.out]; rfl, y.trans (hb1.mono y.size)⟩
            · have HX2 : Hid (nextF S f' (a + k + 2 + m) (q + 1) = R) := by
                have := HX.out
                rwa [if_neg (by omega), if_neg (by omega)] at this
              clear HX
              go_wp2_with (first
          | (go_at_call 19; with_reducible refine cI.mono ?_; rintro e w1 ⟨rfl, hw⟩; rw [hw]; clear hw)
          | (go_at_call 20; with_reducible refine cL.mono ?_; rintro e w1 ⟨rfl, hb1⟩))
              go_roundg (gk - 1)
              case measure => omega
              case rel => exact ⟨f', a + k + 2 + m, q + 1, by go_num, by go_num, by omega, by omega, by omega, y.trans (hb1.mono y.size), by omega, HX2.out⟩
end Go.Proofs.YtbfndlmihijcgaaGreatDoor
