/- api.Tell, plain.Place, and the statements' own word 'is', of nil and of an error at a place. Conditions: errors.errorType lies as the program's text lays it; the place's block lies. -/
import Derived.Test.YtmjfhhladicacaaDoorRows
import Derived.Test.YtmjfhhladicacaaDoorErrAt
namespace Go.Proofs.YtmjfhhladicacaaDoor
open Go.RowKit

theorem errTy_below {w w' : World} (h : ErrTy w) (hb : Below w.heap.size w w') : ErrTy w' := by
  have hlt : 3 < w.heap.size := by
    rcases Nat.lt_or_ge 3 w.heap.size with h' | h'
    · exact h'
    · unfold ErrTy at h; simp [World.cell?, Array.getElem?_eq_none h'] at h
  exact (hb.cell (p := ⟨_, 0, none⟩) hlt).trans h

set_option maxHeartbeats 1000000 in
theorem tell_nil (w : World) :
    Calls Tryd.prog 74 #[.nilIface] w fun e w' => e = .returned (.int .i64 0) ∧ w = w' := by
  go_enter Tryd.func74, Tryd.ntmps74
  go_wp2_with fail
  go_ret
  exact ⟨rfl, rfl⟩

set_option maxHeartbeats 1000000 in
theorem place_nil (w : World) :
    Calls Tryd.prog 48 #[.nilIface] w fun e w' => e = .returned (.tuple #[.int .i64 0, .int .i64 (-1)]) ∧ w = w' := by
  go_enter Tryd.func48, Tryd.ntmps48
  go_wp2_with (go_at_call 74; refine (tell_nil _).mono ?_; rintro e w' ⟨rfl, rfl⟩)
  refine wp_loop_rounds 1 ?_
  rw [rounds_succ]
  go_wp2_with fail
  go_ret2
  exact ⟨rfl, rfl⟩

set_option maxRecDepth 100000 in
set_option maxHeartbeats 1000000 in
theorem is_nil0 (w : World) :
    Calls Tryd.prog 24 #[.nilIface, .agg #[.int .i64 0, .int .i64 (-1)]] w fun e w' => e = .returned (.bool true) ∧ Below w.heap.size w w' := by
  go_enter Tryd.func24, Tryd.ntmps24
  go_wp2_with (go_at_call 48; refine (place_nil _).mono ?_; rintro e w1 ⟨rfl, rfl⟩)
  go_ret
  exact ⟨rfl, (Below.refl _ _).alloc (Nat.le_refl _) _⟩

set_option maxRecDepth 100000 in
set_option maxHeartbeats 4000000 in
theorem tell_at (n pl : Int) (N : Nat) (w : World) (hE : ErrTy w) (hN : w.heap[N]? = some (.cells #[.int .i64 n, .int .i64 pl] 62 (0, 0))) :
    Calls Tryd.prog 74 #[.iface 61 (.pointer (some ⟨N, 0, none⟩))] w fun e w' => e = .returned (.int .i64 n) ∧ Below w.heap.size w w' := by
  have hb0 := (Below.refl w.heap.size w).alloc (Nat.le_refl _) (.cells #[.int .i64 0] 51)
  have hA : ErrTy (w.alloc (.cells #[.int .i64 0] 51)) := errTy_below hE hb0
  have cA := as_at n pl N ⟨w.heap.size, 0, none⟩ (.int .i64 0) (w.alloc (.cells #[.int .i64 0] 51)) hA (by simp) (by simp) (alloc_same hN)
  have c0 : (w.alloc (.cells #[.int .i64 0] 51)).cell? ⟨w.heap.size, 0, none⟩ = some (.int .i64 0) := by simp
  have hlt : w.heap.size < (w.alloc (.cells #[.int .i64 0] 51)).heap.size := by simp
  go_enter Tryd.func74, Tryd.ntmps74
  go_wp2_with (go_at_call 93; refine cA.mono ?_; rintro e w' ⟨rfl, W, hW, rfl⟩; have c1 := (hW.cell (p := ⟨w.heap.size, 0, none⟩) hlt).trans c0)
  go_ret
  exact ⟨rfl, (hb0.trans (hW.mono hb0.size)).setCell (p := ⟨w.heap.size, 0, none⟩) (Nat.le_refl _) _⟩

set_option maxRecDepth 100000 in
set_option maxHeartbeats 1000000 in
theorem place_at (n pl : Int) (N : Nat) (w : World) (hE : ErrTy w) (hN : w.heap[N]? = some (.cells #[.int .i64 n, .int .i64 pl] 62 (0, 0))) :
    Calls Tryd.prog 48 #[.iface 61 (.pointer (some ⟨N, 0, none⟩))] w fun e w' => e = .returned (.tuple #[.int .i64 n, .int .i64 pl]) ∧ Below w.heap.size w w' := by
  have ta : ∀ W : World, (Instr.typeAssert (.iface 61 (.pointer (some ⟨N, 0, none⟩))) 25 61 true).run Tryd.prog W = .ok (.tuple #[.pointer (some ⟨N, 0, none⟩), .bool true]) W := fun W => by kernel_rfl
  go_enter Tryd.func48, Tryd.ntmps48
  go_wp2_with (go_at_call 74; refine (tell_at n pl N _ hE hN).mono ?_; rintro e w1 ⟨rfl, hb1⟩; have hN1 := below_same hb1 hN; have n1 : w1.cell? ⟨N, 1, none⟩ = some (.int .i64 pl) := by { rw [Lib.cell_of_heap hN1]; rfl })
  refine wp_loop_rounds 1 ?_
  rw [rounds_succ]
  go_wp2_with fail
  go_region
  go_wp2_with fail
  go_ret2
  exact ⟨rfl, hb1.drew⟩

set_option maxRecDepth 100000 in
set_option maxHeartbeats 1000000 in
theorem is_at (n pl : Int) (N : Nat) (w : World) (hE : ErrTy w) (hN : w.heap[N]? = some (.cells #[.int .i64 n, .int .i64 pl] 62 (0, 0))) :
    Calls Tryd.prog 24 #[.iface 61 (.pointer (some ⟨N, 0, none⟩)), .agg #[.int .i64 n, .int .i64 pl]] w fun e w' => e = .returned (.bool true) ∧ Below w.heap.size w w' := by
  have hb0 := (Below.refl w.heap.size w).alloc (Nat.le_refl _) (.cells #[.int .i64 n, .int .i64 pl] 53)
  have cP := place_at n pl N (w.alloc (.cells #[.int .i64 n, .int .i64 pl] 53)) (errTy_below hE hb0) (alloc_same hN)
  go_enter Tryd.func24, Tryd.ntmps24
  go_wp2_with (go_at_call 48; refine cP.mono ?_; rintro e w1 ⟨rfl, hb1⟩; have c0 : w1.cell? ⟨w.heap.size, 0, none⟩ = some (.int .i64 n) := by { rw [hb1.cell (p := ⟨w.heap.size, 0, none⟩) (by simp)]; simp }; have c1 : w1.cell? ⟨w.heap.size, 1, none⟩ = some (.int .i64 pl) := by { rw [hb1.cell (p := ⟨w.heap.size, 1, none⟩) (by simp)]; simp })
  go_ret
  exact ⟨rfl, hb0.trans (hb1.mono hb0.size)⟩
end Go.Proofs.YtmjfhhladicacaaDoor
