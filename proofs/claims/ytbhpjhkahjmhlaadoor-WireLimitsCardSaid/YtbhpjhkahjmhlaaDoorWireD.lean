/- The walk over letterboxlaw.WireLimits: it returns true, whatever it is given. Conditions: strconv's table of powers and its two errors, bytealg.MaxLen and errors.errorType lie as the program's text lays them. -/
import Derived.Test.YtbhpjhkahjmhlaaDoorWireC
import Derived.Test.YtbhpjhkahjmhlaaDoorTell
namespace Go.Proofs.YtbhpjhkahjmhlaaDoor
open Go.RowKit Go.Shelf

def WAll (w : World) : Prop := WireG w ∧ ErrTy w
theorem WAll.below {w w' : World} (h : WAll w) (hb : Below w.heap.size w w') : WAll w' := ⟨h.1.below hb, errTy_below h.2 hb⟩
theorem bare_same (b : Bool) (w : World) (h : WAll w) :
    Calls Tryd.prog 8 #[errW b, errR b] w fun e w' => e = .returned (.bool true) ∧ Below w.heap.size w w' := by
  cases b
  · exact bare_nil 0 w
  · exact bare_err 4 4 w h.2
theorem u_mod (n k : Int) (h0 : 0 < k) (h1 : k ≤ 4000) : ∃ E : Nat, (IntKind.u64.wrap n).tmod k = (E : Int) ∧ (E : Int) < k ∧ wrap64 (E : Int) = (E : Int) := by
  have hu := IntKind.wrap_u64 n
  have h2 : 0 ≤ IntKind.u64.wrap n := by rw [hu]; exact Int.emod_nonneg _ (by decide)
  have h3 : (IntKind.u64.wrap n).tmod k = (IntKind.u64.wrap n) % k := Int.tmod_eq_emod_of_nonneg h2
  have h4 := Int.emod_nonneg (IntKind.u64.wrap n) (show k ≠ 0 by omega)
  have h5 := Int.emod_lt_of_pos (IntKind.u64.wrap n) h0
  refine ⟨((IntKind.u64.wrap n) % k).toNat, ?_, ?_, ?_⟩
  · rw [h3]; omega
  · omega
  · rw [Int.toNat_of_nonneg h4]; unfold wrap64; omega
theorem u_sum (E : Nat) (h : (E : Int) < 200) : ∃ N : Nat, wrap64 (2900 + (E : Int)) = (N : Int) ∧ N ≤ 4000 := by
  refine ⟨(2900 + (E : Int)).toNat, ?_, ?_⟩
  · unfold wrap64; omega
  · omega
theorem u_le (E : Nat) (k : Int) (h : (E : Int) < k) (h2 : k ≤ 4000) : E ≤ 4000 := by omega
theorem w_cat (a b : List UInt8) : (⟨a.toArray⟩ : ByteArray) ++ ⟨b.toArray⟩ = ⟨(a ++ b).toArray⟩ := by
  apply ByteArray.ext; simp

set_option maxRecDepth 100000 in
set_option maxHeartbeats 8000000 in
theorem wireLimits_any (n m : Int) (s : List UInt8) (w : World) (hn0 : -9223372036854775808 ≤ n) (hn1 : n ≤ 9223372036854775807) (hm0 : -9223372036854775808 ≤ m) (hm1 : m ≤ 9223372036854775807) (hs : s.length ≤ 9223372036854775807) (hA : WAll w) :
    Calls Tryd.prog 3 #[.int .i64 n, .int .i64 m, .string ⟨s.toArray⟩] w fun e w' => e = .returned (.bool true) ∧ Below w.heap.size w w' := by
  have hts := w_size s
  by_cases h100 : (100 : Int) < (s.length : Int)
  · go_enter Tryd.func3, Tryd.ntmps3
    go_wp2_with fail
    go_ret
    exact ⟨rfl, Below.refl _ _⟩
  have y := Below.refl w.heap.size w
  obtain ⟨E, hE, hEl, v1⟩ := u_mod n 200 (by decide) (by decide)
  obtain ⟨D, hD, hDl, v3⟩ := u_mod m 4000 (by decide) (by decide)
  obtain ⟨G, hG, hGl, v4⟩ := u_mod n 3000 (by decide) (by decide)
  obtain ⟨N1, hN1, hN2⟩ := u_sum E hEl
  have HE := Lib.hid (And.intro hE (And.intro hD (And.intro hG (And.intro v1 (And.intro v3 (And.intro v4 hN1))))))
  have hDl2 : D ≤ 4000 := u_le D _ hDl (by decide)
  have hGl2 : G ≤ 4000 := u_le G _ hGl (by decide)
  clear hE hD hG v1 v3 v4 hN1 hEl hDl hGl hn0 hn1 hm0 hm1
  have cF1 := fun W => fill_any N1 W (by omega)
  have cF2 := fun W => fill_any G W (by omega)
  have cD := fun W => digits_any D W (by omega)
  have hDlen := digL_len D
  have hR1 : (List.replicate N1 (120 : UInt8)).length = N1 := by simp
  have hR2 : (List.replicate G (120 : UInt8)).length = G := by simp
  generalize List.replicate N1 (120 : UInt8) = P at cF1 hR1
  generalize List.replicate G (120 : UInt8) = Q at cF2 hR2
  generalize digL D = dl at cD hDlen
  obtain ⟨x1, hx1⟩ : ∃ x, x = s ++ P := ⟨_, rfl⟩
  obtain ⟨x2, hx2⟩ : ∃ x, x = x1 ++ [13, 10] := ⟨_, rfl⟩
  obtain ⟨y1, hy1⟩ : ∃ x, x = s ++ [32, 123] := ⟨_, rfl⟩
  obtain ⟨y2, hy2⟩ : ∃ x, x = y1 ++ dl := ⟨_, rfl⟩
  obtain ⟨y3, hy3⟩ : ∃ x, x = y2 ++ [125, 13, 10] := ⟨_, rfl⟩
  obtain ⟨y4, hy4⟩ : ∃ x, x = y3 ++ Q := ⟨_, rfl⟩
  obtain ⟨y5, hy5⟩ : ∃ x, x = y4 ++ [13, 10] := ⟨_, rfl⟩
  have a1 : (⟨s.toArray⟩ : ByteArray) ++ ⟨P.toArray⟩ = ⟨x1.toArray⟩ := by rw [hx1]; exact w_cat _ _
  have a2 : (⟨x1.toArray⟩ : ByteArray) ++ ⟨#[13, 10]⟩ = ⟨x2.toArray⟩ := by rw [hx2]; exact w_cat _ _
  have a3 : (⟨s.toArray⟩ : ByteArray) ++ ⟨#[32, 123]⟩ = ⟨y1.toArray⟩ := by rw [hy1]; exact w_cat _ _
  have a4 : (⟨y1.toArray⟩ : ByteArray) ++ ⟨dl.toArray⟩ = ⟨y2.toArray⟩ := by rw [hy2]; exact w_cat _ _
  have a5 : (⟨y2.toArray⟩ : ByteArray) ++ ⟨#[125, 13, 10]⟩ = ⟨y3.toArray⟩ := by rw [hy3]; exact w_cat _ _
  have a6 : (⟨y3.toArray⟩ : ByteArray) ++ ⟨Q.toArray⟩ = ⟨y4.toArray⟩ := by rw [hy4]; exact w_cat _ _
  have a7 : (⟨y4.toArray⟩ : ByteArray) ++ ⟨#[13, 10]⟩ = ⟨y5.toArray⟩ := by rw [hy5]; exact w_cat _ _
  have a8 : (⟨x2.toArray⟩ : ByteArray).extract 0 (x2.length - 2) = ⟨x1.toArray⟩ := by rw [w_part, hx2]; simp
  have b1s : s.length ≤ 100 := by omega
  have b1 : x1.length ≤ 4100 := by rw [hx1, List.length_append]; omega
  have b2 : x2.length = x1.length + 2 := by rw [hx2, List.length_append]; rfl
  have b3 : y1.length ≤ 102 := by rw [hy1, List.length_append]; simp; omega
  have b4 : y2.length ≤ 5000 := by rw [hy2, List.length_append]; omega
  have b5 : y3.length ≤ 5003 := by rw [hy3, List.length_append]; simp; omega
  have b6 : y4.length ≤ 9100 := by rw [hy4, List.length_append]; omega
  have b7 : y5.length ≤ 9102 := by rw [hy5, List.length_append]; simp; omega
  have t1 := w_size x1
  have t2 := w_size y1
  have t3 := w_size y2
  have t4 := w_size y3
  have t5 := w_size y4
  have t6 := w_size P
  have t7 := w_size Q
  have t8 := w_size dl
  have t9 := w_size x2
  have z1 : ((x2.length : Int) - 2).toNat = x2.length - 2 := by omega
  have z2 : (0 : Int) ≤ (x2.length : Int) - 2 := by omega
  have z3 : (x2.length : Int) - 2 ≤ (x2.length : Int) := by omega
  have b2' : x2.length ≤ 4102 := by omega
  have b8 : P.length ≤ 4000 := by omega
  have b9 : Q.length ≤ 4000 := by omega
  have b10 : dl.length ≤ 5000 := by omega
  have cNx := fun W (hW : WAll W) => next_any x2 W (by omega) hW.1
  have cRx := fun W (hW : WAll W) => nextR_any x2 W (by omega) hW.1
  have cNy := fun W (hW : WAll W) => next_any y5 W (by omega) hW.1
  have cRy := fun W (hW : WAll W) => nextR_any y5 W (by omega) hW.1
  have cNz := fun W (hW : WAll W) => next_any x1 W (by omega) hW.1
  have cRz := fun W (hW : WAll W) => nextR_any x1 W (by omega) hW.1
  generalize nextF x2 (x2.length + 1) 0 0 = R1 at cNx cRx
  generalize nextF y5 (y5.length + 1) 0 0 = R2 at cNy cRy
  generalize nextF x1 (x1.length + 1) 0 0 = R3 at cNz cRz
  obtain ⟨r1, r2, r3⟩ := R1
  obtain ⟨s1, s2, s3⟩ := R2
  obtain ⟨u1, u2, u3⟩ := R3
  simp only at cNx cRx cNy cRy cNz cRz
  have cB1 := fun W hW => bare_same r3 W hW
  have cB2 := fun W hW => bare_same s3 W hW
  have cB3 := fun W hW => bare_same u3 W hW
  generalize errW r3 = eW1 at cNx cB1
  generalize errR r3 = eR1 at cRx cB1
  generalize errW s3 = eW2 at cNy cB2
  generalize errR s3 = eR2 at cRy cB2
  generalize errW u3 = eW3 at cNz cB3
  generalize errR u3 = eR3 at cRz cB3
  obtain ⟨hE, hD, hG, v1, v3, v4, hN1⟩ := HE.out
  clear HE
  clear hx1 hx2 hy1 hy2 hy3 hy4 hy5 hDl2 hGl2 hR1 hR2 hDlen b2 hN2
  go_enter Tryd.func3, Tryd.ntmps3
  go_wp2_with (first
    | (go_at_call 4; with_reducible refine (cF1 _).mono ?_; rintro e wX ⟨rfl, hbX⟩; have y := y.trans (hbX.mono y.size); have hA := hA.below hbX)
    | (go_at_call 5; with_reducible refine (cD _).mono ?_; rintro e wX ⟨rfl, hbX⟩; have y := y.trans (hbX.mono y.size); have hA := hA.below hbX)
    | (go_at_call 4; with_reducible refine (cF2 _).mono ?_; rintro e wX ⟨rfl, hbX⟩; have y := y.trans (hbX.mono y.size); have hA := hA.below hbX)
    | (go_at_call 6; with_reducible refine (cRx _ hA).mono ?_; rintro e wX ⟨rfl, hbX⟩; have y := y.trans (hbX.mono y.size); have hA := hA.below hbX)
    | (go_at_call 7; with_reducible refine (cNx _ hA).mono ?_; rintro e wX ⟨rfl, hbX⟩; have y := y.trans (hbX.mono y.size); have hA := hA.below hbX)
    | (go_at_call 6; with_reducible refine (cRy _ hA).mono ?_; rintro e wX ⟨rfl, hbX⟩; have y := y.trans (hbX.mono y.size); have hA := hA.below hbX)
    | (go_at_call 7; with_reducible refine (cNy _ hA).mono ?_; rintro e wX ⟨rfl, hbX⟩; have y := y.trans (hbX.mono y.size); have hA := hA.below hbX)
    | (go_at_call 6; with_reducible refine (cRz _ hA).mono ?_; rintro e wX ⟨rfl, hbX⟩; have y := y.trans (hbX.mono y.size); have hA := hA.below hbX)
    | (go_at_call 7; with_reducible refine (cNz _ hA).mono ?_; rintro e wX ⟨rfl, hbX⟩; have y := y.trans (hbX.mono y.size); have hA := hA.below hbX)
    | (go_at_call 8; with_reducible refine (cB1 _ hA).mono ?_; rintro e wX ⟨rfl, hbX⟩; have y := y.trans (hbX.mono y.size); have hA := hA.below hbX)
    | (go_at_call 8; with_reducible refine (cB2 _ hA).mono ?_; rintro e wX ⟨rfl, hbX⟩; have y := y.trans (hbX.mono y.size); have hA := hA.below hbX)
    | (go_at_call 8; with_reducible refine (cB3 _ hA).mono ?_; rintro e wX ⟨rfl, hbX⟩; have y := y.trans (hbX.mono y.size); have hA := hA.below hbX))
  go_ret
  exact ⟨rfl, y⟩
end Go.Proofs.YtbhpjhkahjmhlaaDoor
