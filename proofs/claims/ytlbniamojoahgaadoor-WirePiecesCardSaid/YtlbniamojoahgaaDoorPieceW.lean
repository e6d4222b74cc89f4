/- The walk over letterboxkeep.WirePieces: it returns true, whatever it is given. Conditions: strconv's table of powers and its two errors, and bytealg.MaxLen, lie as the program's text lays them. -/
import Derived.Test.YtlbniamojoahgaaDoorWireW
import Derived.Test.YtlbniamojoahgaaDoorPPieces
namespace Go.Proofs.YtlbniamojoahgaaDoor
open Go.RowKit Go.Shelf Go.Sort
set_option linter.unusedSimpArgs false

/-- a choice among some -/
def pickK (a : Int) (n : Nat) : Nat := ((IntKind.u64.wrap a).tmod (n : Int)).toNat
theorem uk_pos (a : Int) : 0 ≤ IntKind.u64.wrap a := by
  simp only [IntKind.wrap, IntKind.bits, IntKind.signed]
  exact Int.emod_nonneg _ (by decide)
theorem pickK_val (a : Int) {n : Nat} (h : 0 < n) : (IntKind.u64.wrap a).tmod (n : Int) = (pickK a n : Int) := by
  unfold pickK
  have h1 := Int.tmod_nonneg (n : Int) (uk_pos a)
  omega
theorem pickK_lt (a : Int) {n : Nat} (h : 0 < n) : pickK a n < n := by
  have h1 := pickK_val a h
  have h2 := Int.tmod_lt_of_pos (IntKind.u64.wrap a) (show (0 : Int) < (n : Int) by omega)
  omega
set_option maxRecDepth 100000 in
set_option maxHeartbeats 1000000 in
theorem pickK_any (a : Int) (n : Nat) (w : World) (h0 : 0 < n) (hn : n ≤ 9223372036854775807) (hlo : -9223372036854775808 ≤ a) (hhi : a ≤ 9223372036854775807) :
    Calls Tryd.prog 5 #[.int .i64 a, .int .i64 (n : Int)] w fun e w' => e = .returned (.int .i64 (pickK a n : Int)) ∧ w = w' := by
  have hp := pickK_lt a h0
  go_enter Tryd.func5, Tryd.ntmps5
  go_wp2_with fail
  go_ret
  refine ⟨?_, rfl⟩
  have e : wrap64 ((IntKind.u64.wrap a).tmod (n : Int)) = (pickK a n : Int) := by
    rw [pickK_val a h0]
    exact IntWalk.wrap64_in _ (by omega)
  simp [e]

set_option maxRecDepth 100000 in
set_option maxHeartbeats 8000000 in
theorem pieces_any (S : List UInt8) (i : Int) (w : World) (hs : S.length ≤ 9223372036854775807) (h0 : -9223372036854775808 ≤ i) (h1 : i ≤ 9223372036854775807) (hG : WireG w) :
    Calls Tryd.prog 3 #[.string ⟨S.toArray⟩, .int .i64 i] w fun e w' => e = .returned (.bool true) ∧ Below w.heap.size w w' := by
  have hts := w_size S
  have y := Below.refl w.heap.size w
  by_cases hB : (1500 : Int) < (S.length : Int)
  · go_enter Tryd.func3, Tryd.ntmps3
    go_wp2_with fail
    go_ret
    exact ⟨rfl, y⟩
  have hl : S.length ≤ 1500 := by omega
  have hlt := pickK_lt i (show 0 < S.length + 1 by omega)
  have cP := fun W => pickK_any i (S.length + 1) W (by omega) (by omega) h0 h1
  generalize pickK i (S.length + 1) = E at hlt cP
  have ec : ((S.length + 1 : Nat) : Int) = (S.length : Int) + 1 := by omega
  rw [ec] at cP
  have hE : E ≤ S.length := by omega
  have hps := piece_all S E (by omega) hE
  have hTl : (S.take E).length ≤ 100000 := by rw [List.length_take]; omega
  have hx : (⟨S.toArray⟩ : ByteArray).extract 0 E = ⟨(S.take E).toArray⟩ := by rw [w_part]; simp
  have cN := fun W hW => next_any (S.take E) W hTl hW
  have cM := fun W hW => next_any S W (by omega) hW
  rw [← hx] at cN
  clear hx hTl
  generalize nextF (S.take E) ((S.take E).length + 1) 0 0 = R1 at cN hps
  generalize nextF S (S.length + 1) 0 0 = R2 at cM hps
  obtain ⟨r1, r2, r3⟩ := R1
  obtain ⟨s1, s2, s3⟩ := R2
  simp only at cN cM
  unfold Piece at hps
  simp only at hps
  obtain ⟨hp1, hp2⟩ := hps
  have hHG := Lib.hid (fun W (h : Below w.heap.size w W) => hG.below h)
  clear ec hlt h0 h1
  go_enter Tryd.func3, Tryd.ntmps3
  have HP := Lib.hid (And.intro hp1 hp2)
  clear hp1 hp2
  go_upto_region 8 with (first
    | (go_at_call 4; go_loud (((with_reducible refine (wired_any _ hG).mono ?_); rintro e w1 ⟨rfl, h1⟩; have y1 := y.trans h1; have hG1 := hHG.out _ y1)))
    | (go_at_call 5; go_loud (((with_reducible refine (cP _).mono ?_); rintro e w0 ⟨rfl, rfl⟩)))
    | (go_at_call 6; first
      | go_loud (((with_reducible refine (cN _ hG1).mono ?_); rintro e w2 ⟨rfl, h2⟩; have y2 := y1.trans (h2.mono y1.size); have hG2 := hHG.out _ y2))
      | go_loud (((with_reducible refine (cM _ hG2).mono ?_); rintro e w3 ⟨rfl, h3⟩; have y3 := y2.trans (h3.mono y2.size)))))
  obtain ⟨hp1, hp2⟩ := HP.out
  clear HP cN cM cP
  cases r3
  · cases s3
    · obtain ⟨q1, q2, q3, q4⟩ := hp2 rfl rfl
      clear hp1 hp2
      have f1 : decide ((r2 : Int) ≤ (s2 : Int)) = true := decide_eq_true (by omega)
      have f2 : decide ((r1 : Int) ≤ (E : Int)) = true := decide_eq_true (by omega)
      unfold errW
      rw [if_neg (by decide)]
      go_wp2_with fail
      all_goals (go_ret; exact ⟨rfl, y3⟩)
    · clear hp1 hp2
      unfold errW
      rw [if_pos rfl, if_neg (by decide)]
      go_wp2_with fail
      go_ret
      exact ⟨rfl, y3⟩
  · have := hp1 rfl
    subst this
    clear hp1 hp2
    unfold errW
    rw [if_pos rfl]
    go_wp2_with fail
    go_ret
    exact ⟨rfl, y3⟩
end Go.Proofs.YtlbniamojoahgaaDoor
