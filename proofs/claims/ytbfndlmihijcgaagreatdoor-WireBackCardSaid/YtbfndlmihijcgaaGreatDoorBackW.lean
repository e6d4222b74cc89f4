/- The walk over letterboxkeep.WireBack: it returns true, whatever it is given. Conditions: strconv's table of powers and its two errors, and bytealg.MaxLen, lie as the program's text lays them. -/
import Derived.Test.YtbfndlmihijcgaaGreatDoorTextB
import Derived.Test.YtbfndlmihijcgaaGreatDoorSameA
import Derived.Test.YtbfndlmihijcgaaGreatDoorPickK
namespace Go.Proofs.YtbfndlmihijcgaaGreatDoor
open Go.RowKit Go.Shelf Go.Sort
set_option linter.unusedSimpArgs false

/-- what is known of a command that was read, written again -/
structure BackT (tag nm : List UInt8) (l : List ArgP) (T R : List UInt8) : Prop where
  line : (lineF tag nm l).length ≤ 90000
  text : lineF tag nm l ++ [13, 10] = T
  parse : parseF T = .ok (tag, nm, l)
  len : T.length ≤ 1600
  pos : 2 ≤ T.length
  next : ∃ k, nextF T (T.length + 1) 0 0 = (T.length, k, false)
  more : ∃ k, nextF (T ++ R) ((T ++ R).length + 1) 0 0 = (T.length, k, false)
  part : ∀ j, j < T.length → ∃ k, nextF (T.take j) ((T.take j).length + 1) 0 0 = (0, k, false)
theorem back_t {S tag nm : List UInt8} {l : List ArgP} (h : parseF S = .ok (tag, nm, l)) (hS : S.length ≤ 800) (R : List UInt8) : ∃ T, BackT tag nm l T R := by
  obtain ⟨h1, h2, h3, h4⟩ := back_law h hS
  have hl : (lineF tag nm l ++ [13, 10]).length = (lineF tag nm l).length + 2 := by simp
  refine ⟨_, ⟨by omega, rfl, h1, h2, by omega, ?_, ?_, h4⟩⟩
  · obtain ⟨k, hk⟩ := h3 []
    exact ⟨k, by rw [hl]; rw [hl] at hk; exact hk⟩
  · obtain ⟨k, hk⟩ := h3 R
    refine ⟨k, ?_⟩
    have e : lineF tag nm l ++ [13, 10] ++ R = lineF tag nm l ++ 13 :: 10 :: R := by simp
    rw [e, hl]; exact hk
set_option maxRecDepth 100000 in
set_option maxHeartbeats 8000000 in
theorem back_any (S R : List UInt8) (i : Int) (w : World) (hs : S.length ≤ 9223372036854775807) (hr : R.length ≤ 9223372036854775807) (hi0 : -9223372036854775808 ≤ i) (hi1 : i ≤ 9223372036854775807) (hG : WireG w) :
    Calls Tryz.prog 3 #[.string ⟨S.toArray⟩, .string ⟨R.toArray⟩, .int .i64 i] w fun e w' => e = .returned (.bool true) ∧ Below w.heap.size w w' := by
  have hts := w_size S
  have htr := w_size R
  have y := Below.refl w.heap.size w
  by_cases hB : (800 : Int) < (S.length : Int)
  · go_enter Tryz.func3, Tryz.ntmps3
    go_wp2_with fail
    go_ret
    exact ⟨rfl, y⟩
  by_cases hC : (200 : Int) < (R.length : Int)
  · go_enter Tryz.func3, Tryz.ntmps3
    go_wp2_with fail
    go_ret
    exact ⟨rfl, y⟩
  have hl : S.length ≤ 800 := by omega
  have hm : R.length ≤ 200 := by omega
  have hHG := Lib.hid (fun W (h : Below w.heap.size w W) => hG.below h)
  have cP := fun W hW => parse_any S W (by omega) hW
  unfold CmdR at cP
  cases hp : parseF S with
  | error ep =>
    obtain ⟨E, p⟩ := ep
    rw [hp] at cP
    dsimp only at cP
    clear hp
    go_enter Tryz.func3, Tryz.ntmps3
    go_upto_region 6 with (first
      | (go_at_call 4; go_loud (((with_reducible refine (wired_any _ hG).mono ?_); rintro e w1 ⟨rfl, h1⟩; have y1 := y.trans h1; have hG1 := hHG.out _ y1)))
      | (go_at_call 5; go_loud (((with_reducible refine (cP _ hG1).mono ?_); rintro e w2 ⟨b, rfl, h2, h3⟩; have y2 := y1.trans (h3.mono y1.size)))))
    go_wp2_with fail
    go_ret
    exact ⟨rfl, y2.alloc y2.size _⟩
  | ok p =>
    obtain ⟨tag, nm, l⟩ := p
    rw [hp] at cP
    dsimp only at cP
    obtain ⟨T, hT⟩ := back_t hp hl R
    clear hp
    go_enter Tryz.func3, Tryz.ntmps3
    go_upto_region 6 with (first
      | (go_at_call 4; go_loud (((with_reducible refine (wired_any _ hG).mono ?_); rintro e w1 ⟨rfl, h1⟩; have y1 := y.trans h1; have hG1 := hHG.out _ y1)))
      | (go_at_call 5; go_loud (((with_reducible refine (cP _ hG1).mono ?_); rintro e w2 ⟨v, rfl, hr2, h3⟩; obtain ⟨va, vc, rfl⟩ := readsA_slice hr2; have y2 := y1.trans (h3.mono y1.size)))))
    clear cP h3 y1 hG1
    have HA := Lib.hid (World.heap_alloc_new w2 (.cells #[.string ⟨tag.toArray⟩, .string ⟨nm.toArray⟩, .slice va l.length vc] 25))
    have hb := (Below.refl w2.heap.size w2).alloc (Nat.le_refl _) (.cells #[.string ⟨tag.toArray⟩, .string ⟨nm.toArray⟩, .slice va l.length vc] 25)
    have yb := y2.alloc y2.size (.cells #[.string ⟨tag.toArray⟩, .string ⟨nm.toArray⟩, .slice va l.length vc] 25)
    have hr3 := readsA_below hr2 hb
    have hsz := alloc_size w2 (.cells #[.string ⟨tag.toArray⟩, .string ⟨nm.toArray⟩, .slice va l.length vc] 25)
    obtain ⟨w3, hw3⟩ : ∃ w3, w2.alloc (.cells #[.string ⟨tag.toArray⟩, .string ⟨nm.toArray⟩, .slice va l.length vc] 25) = w3 := ⟨_, rfl⟩
    rw [hw3] at HA hb yb hr3 hsz ⊢
    clear hw3 hb hr2 y2
    have k3 := HA.out
    have a0 : w3.cell? ⟨w2.heap.size, 0, none⟩ = some (.string ⟨tag.toArray⟩) := by rw [Lib.cell_of_heap k3]; rfl
    have a1 : w3.cell? ⟨w2.heap.size, 1, none⟩ = some (.string ⟨nm.toArray⟩) := by rw [Lib.cell_of_heap k3]; rfl
    have a2 : w3.cell? ⟨w2.heap.size, 2, none⟩ = some (.slice va l.length vc) := by rw [Lib.cell_of_heap k3]; rfl
    have HK3 := Lib.hid k3
    clear k3 HA
    have cR := print_any tag nm l _ w3 _ hr3 hT.line (hHG.out _ yb)
    rw [hT.text] at cR
    have HR3 := Lib.hid hr3
    clear hr3
    go_upto_region 9 with (go_at_call 6; go_loud (((with_reducible refine cR.mono ?_); rintro e w4 ⟨rfl, h4⟩)))
    have y4 := yb.trans (h4.mono yb.size)
    have hr4 := readsA_below HR3.out h4
    have k4 := below_same h4 HK3.out
    have z4 := h4.size
    clear HK3 HR3 cR a0 a1 a2 h4
    have cQ := parse_any T w4 (by have := hT.len; omega) (hHG.out _ y4)
    unfold CmdR at cQ
    rw [hT.parse] at cQ
    dsimp only at cQ
    have HR4 := Lib.hid hr4
    have HK4 := Lib.hid k4
    clear hr4 k4
    go_upto_region 10 with (go_at_call 5; go_loud (((with_reducible refine cQ.mono ?_); rintro e w5 ⟨v, rfl, hr5, h5⟩; obtain ⟨vb, vd, rfl⟩ := readsA_slice hr5)))
    have y5 := y4.trans (h5.mono y4.size)
    have hq5 := readsA_below HR4.out h5
    have k5 := below_same h5 HK4.out
    have z5 := h5.size
    clear HK4 HR4 cQ h5
    have HA := Lib.hid (World.heap_alloc_new w5 (.cells #[.string ⟨tag.toArray⟩, .string ⟨nm.toArray⟩, .slice vb l.length vd] 25))
    have hb := (Below.refl w5.heap.size w5).alloc (Nat.le_refl _) (.cells #[.string ⟨tag.toArray⟩, .string ⟨nm.toArray⟩, .slice vb l.length vd] 25)
    have yb := y5.alloc y5.size (.cells #[.string ⟨tag.toArray⟩, .string ⟨nm.toArray⟩, .slice vb l.length vd] 25)
    have hr6 := readsA_below hr5 hb
    have hq6 := readsA_below hq5 hb
    have k6 := below_same hb k5
    have hsz6 := alloc_size w5 (.cells #[.string ⟨tag.toArray⟩, .string ⟨nm.toArray⟩, .slice vb l.length vd] 25)
    obtain ⟨w6, hw6⟩ : ∃ w6, w5.alloc (.cells #[.string ⟨tag.toArray⟩, .string ⟨nm.toArray⟩, .slice vb l.length vd] 25) = w6 := ⟨_, rfl⟩
    rw [hw6] at HA hb yb hr6 hq6 k6 hsz6 ⊢
    clear hw6 hb hr5 hq5 k5 y5
    have a0 : w6.cell? ⟨w2.heap.size, 0, none⟩ = some (.string ⟨tag.toArray⟩) := by rw [Lib.cell_of_heap k6]; rfl
    have a1 : w6.cell? ⟨w2.heap.size, 1, none⟩ = some (.string ⟨nm.toArray⟩) := by rw [Lib.cell_of_heap k6]; rfl
    have a2 : w6.cell? ⟨w2.heap.size, 2, none⟩ = some (.slice va l.length vc) := by rw [Lib.cell_of_heap k6]; rfl
    have b0 : w6.cell? ⟨w5.heap.size, 0, none⟩ = some (.string ⟨tag.toArray⟩) := by rw [Lib.cell_of_heap HA.out]; rfl
    have b1 : w6.cell? ⟨w5.heap.size, 1, none⟩ = some (.string ⟨nm.toArray⟩) := by rw [Lib.cell_of_heap HA.out]; rfl
    have b2 : w6.cell? ⟨w5.heap.size, 2, none⟩ = some (.slice vb l.length vd) := by rw [Lib.cell_of_heap HA.out]; rfl
    have cS := same_any (sizeL l + 1) l _ _ w6 _ _ (Nat.lt_succ_self _) hr6 hq6
    have cR := fun q => print_any tag nm l _ (w6.drewN q) _ (readsA_drewN hr6 q) hT.line (hHG.out _ (below_drewN yb q))
    rw [hT.text] at cR
    go_upto_region 12 with (first
      | (go_at_call 7; go_loud (((with_reducible refine cS.mono ?_); rintro e w7 ⟨rfl, q, rfl⟩; have e0 : (w6.drewN q).cell? ⟨w5.heap.size, 0, none⟩ = some (.string ⟨tag.toArray⟩) := b0; have e1 : (w6.drewN q).cell? ⟨w5.heap.size, 1, none⟩ = some (.string ⟨nm.toArray⟩) := b1; have e2 : (w6.drewN q).cell? ⟨w5.heap.size, 2, none⟩ = some (.slice vb l.length vd) := b2)))
      | (go_at_call 6; go_loud (((with_reducible refine (cR q).mono ?_); rintro e w8 ⟨rfl, h8⟩; have y8 := (below_drewN yb q).trans (h8.mono (below_drewN yb q).size)))))
    clear cS cR a0 a1 a2 b0 b1 b2 e0 e1 e2 h8 yb k6 hr6 hq6
    have hTl := hT.len
    have hTp := hT.pos
    obtain ⟨j1, hj1⟩ := hT.next
    obtain ⟨j2, hj2⟩ := hT.more
    have hlt := pickK_lt i (show 0 < T.length by omega)
    have cK := fun W => pickK_any i T.length W (by omega) (by omega) hi0 hi1
    generalize pickK i T.length = E at hlt cK
    obtain ⟨j3, hj3⟩ := hT.part E hlt
    have cN1 := fun W hW => next_any T W (by omega) hW
    have cN2 := fun W hW => next_any (T ++ R) W (by rw [List.length_append]; omega) hW
    have cN3 := fun W hW => next_any (T.take E) W (by rw [List.length_take]; omega) hW
    have hx : (⟨T.toArray⟩ : ByteArray).extract 0 E = ⟨(T.take E).toArray⟩ := by rw [w_part]; simp
    rw [hj1] at cN1
    rw [hj2, ← cat_l] at cN2
    rw [hj3, ← hx] at cN3
    unfold errW at cN1 cN2 cN3
    simp only [if_neg (show ¬ (false = true) by decide)] at cN1 cN2 cN3
    have hsT := w_size T
    have hG8 := hHG.out _ y8
    have hEz : (E : Int) ≤ (T.length : Int) := by omega
    clear hj1 hj2 hj3 hx hT hi0 hi1
    go_upto_region 15 with (go_at_call 8; go_loud (((with_reducible refine (cN1 _ hG8).mono ?_); rintro e w9 ⟨rfl, h9⟩; have y9 := y8.trans (h9.mono y8.size); have hG9 := hHG.out _ y9)))
    clear cN1 hG8 h9
    go_upto_region 18 with (go_at_call 8; go_loud (((with_reducible refine (cN2 _ hG9).mono ?_); rintro e w10 ⟨rfl, h10⟩; have y10 := y9.trans (h10.mono y9.size); have hG10 := hHG.out _ y10)))
    clear cN2 hG9 h10
    go_wp2_with (first
      | (go_at_call 9; go_loud (((with_reducible refine (cK _).mono ?_); rintro e w0 ⟨rfl, rfl⟩)))
      | (go_at_call 8; go_loud (((with_reducible refine (cN3 _ hG10).mono ?_); rintro e w11 ⟨rfl, h11⟩; have y11 := y10.trans (h11.mono y10.size)))))
    go_ret
    exact ⟨rfl, y11⟩
end Go.Proofs.YtbfndlmihijcgaaGreatDoor
