/- The walk over letterboxkeep.pick. No condition beyond those it names. -/
import Derived.Test.YtgblgbhfgiajiaaGreatDoorRows
import Derived.Test.YtgblgbhfgiajiaaGreatDoorShelf
import Derived.Test.YtgblgbhfgiajiaaGreatDoorKit2
import Derived.IntWalk
namespace Go.Proofs.YtgblgbhfgiajiaaGreatDoor
open Go.RowKit Go.Shelf Go.Sort
set_option linter.unusedSimpArgs false

/-- a choice among some -/
def pickK (a : Int) (n : Nat) : Nat := ((IntKind.u64.wrap a).tmod (n : Int)).toNat
theorem uk_pos (a : Int) : 0 ≤ IntKind.u64.wrap a := by
  simp only [IntKind.wrap, IntKind.bits, IntKind.signed]
  exact Int.emod_nonneg _ (by decide)
theorem pickK_val (a : Int) {n : Nat} (h : 0 < n) : (IntKind.u64.wrap a).tmod (n : Int) = (pickK a n : Int) := by
  unfold pickK
  have h1 := Int.tmod_nonneg (n : Int) (uk_pos a)
  omega
theorem pickK_lt (a : Int) {n : Nat} (h : 0 < n) : pickK a n < n := by
  have h1 := pickK_val a h
  have h2 := Int.tmod_lt_of_pos (IntKind.u64.wrap a) (show (0 : Int) < (n : Int) by omega)
  omega
set_option maxRecDepth 100000 in
set_option maxHeartbeats 1000000 in
theorem pickK_any (a : Int) (n : Nat) (w : World) (h0 : 0 < n) (hn : n ≤ 9223372036854775807) (hlo : -9223372036854775808 ≤ a) (hhi : a ≤ 9223372036854775807) :
    Calls Tryz.prog 7 #[.int .i64 a, .int .i64 (n : Int)] w fun e w' => e = .returned (.int .i64 (pickK a n : Int)) ∧ w = w' := by
  have hp := pickK_lt a h0
  go_enter Tryz.func7, Tryz.ntmps7
  go_wp2_with fail
  go_ret
  refine ⟨?_, rfl⟩
  have e : wrap64 ((IntKind.u64.wrap a).tmod (n : Int)) = (pickK a n : Int) := by
    rw [pickK_val a h0]
    exact IntWalk.wrap64_in _ (by omega)
  simp [e]

end Go.Proofs.YtgblgbhfgiajiaaGreatDoor
