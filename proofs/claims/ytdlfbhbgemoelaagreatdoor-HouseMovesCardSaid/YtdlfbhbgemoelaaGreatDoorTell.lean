/- api.Tell, plain.Place, and the statements' own words 'is' and 'bare', of nil and of an error that is an Errno. Conditions: errors.errorType lies as the program's text lays it. -/
import Derived.Test.YtdlfbhbgemoelaaGreatDoorRows
import Derived.Test.YtdlfbhbgemoelaaGreatDoorErrAs
namespace Go.Proofs.YtdlfbhbgemoelaaGreatDoor
open Go.RowKit

theorem errTy_below {w w' : World} (h : ErrTy w) (hb : Below w.heap.size w w') : ErrTy w' := by
  have hlt : 1 < w.heap.size := by
    rcases Nat.lt_or_ge 1 w.heap.size with h' | h'
    · exact h'
    · unfold ErrTy at h; simp [World.cell?, Array.getElem?_eq_none h'] at h
  exact (hb.cell (p := ⟨_, 0, none⟩) hlt).trans h

set_option maxHeartbeats 1000000 in
theorem tell_nil (w : World) :
    Calls Tryz.prog 19 #[.nilIface] w fun e w' => e = .returned (.int .i64 0) ∧ w = w' := by
  go_enter Tryz.func19, Tryz.ntmps19
  go_wp2_with fail
  go_ret
  exact ⟨rfl, rfl⟩

set_option maxRecDepth 100000 in
set_option maxHeartbeats 4000000 in
theorem tell_errno (n : Int) (w : World) (hE : ErrTy w) :
    Calls Tryz.prog 19 #[.iface 55 (.int .i64 n)] w fun e w' => e = .returned (.int .i64 n) ∧ Below w.heap.size w w' := by
  have hA : ErrTy (w.alloc (.cells #[.int .i64 0] 55)) := errTy_below hE ((Below.refl _ _).alloc (Nat.le_refl _) _)
  have cA := as_hit n ⟨w.heap.size, 0, none⟩ (.int .i64 0) (w.alloc (.cells #[.int .i64 0] 55)) hA (by simp) (by simp)
  go_enter Tryz.func19, Tryz.ntmps19
  go_wp2_with (go_at_call 46; refine cA.mono ?_; rintro e w' ⟨rfl, rfl⟩)
  go_ret
  exact ⟨rfl, (((((Below.refl _ _).alloc (Nat.le_refl _) _).alloc (by simp) _).alloc (by simp; omega) _).alloc (by simp; omega) _).alloc (by simp; omega) _⟩



end Go.Proofs.YtdlfbhbgemoelaaGreatDoor
