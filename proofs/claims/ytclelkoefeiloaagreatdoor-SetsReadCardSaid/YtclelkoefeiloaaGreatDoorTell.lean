/- api.Tell, plain.Place, and the statements' own words 'is' and 'bare', of nil and of an error that is an Errno. Conditions: errors.errorType lies as the program's text lays it. -/
import Derived.Test.YtclelkoefeiloaaGreatDoorRows
import Derived.Test.YtclelkoefeiloaaGreatDoorErrAs
namespace Go.Proofs.YtclelkoefeiloaaGreatDoor
open Go.RowKit

theorem errTy_below {w w' : World} (h : ErrTy w) (hb : Below w.heap.size w w') : ErrTy w' := by
  have hlt : 5 < w.heap.size := by
    rcases Nat.lt_or_ge 5 w.heap.size with h' | h'
    · exact h'
    · unfold ErrTy at h; simp [World.cell?, Array.getElem?_eq_none h'] at h
  exact (hb.cell (p := ⟨_, 0, none⟩) hlt).trans h

set_option maxHeartbeats 1000000 in
theorem tell_nil (w : World) :
    Calls Tryz.prog 57 #[.nilIface] w fun e w' => e = .returned (.int .i64 0) ∧ w = w' := by
  go_enter Tryz.func57, Tryz.ntmps57
  go_wp2_with fail
  go_ret
  exact ⟨rfl, rfl⟩

set_option maxRecDepth 100000 in
set_option maxHeartbeats 4000000 in
theorem tell_errno (n : Int) (w : World) (hE : ErrTy w) :
    Calls Tryz.prog 57 #[.iface 24 (.int .i64 n)] w fun e w' => e = .returned (.int .i64 n) ∧ Below w.heap.size w w' := by
  have hA : ErrTy (w.alloc (.cells #[.int .i64 0] 24)) := errTy_below hE ((Below.refl _ _).alloc (Nat.le_refl _) _)
  have cA := as_hit n ⟨w.heap.size, 0, none⟩ (.int .i64 0) (w.alloc (.cells #[.int .i64 0] 24)) hA (by simp) (by simp)
  go_enter Tryz.func57, Tryz.ntmps57
  go_wp2_with (go_at_call 76; refine cA.mono ?_; rintro e w' ⟨rfl, rfl⟩)
  go_ret
  exact ⟨rfl, (((((Below.refl _ _).alloc (Nat.le_refl _) _).alloc (by simp) _).alloc (by simp; omega) _).alloc (by simp; omega) _).alloc (by simp; omega) _⟩

set_option maxHeartbeats 1000000 in
theorem place_nil (w : World) :
    Calls Tryz.prog 40 #[.nilIface] w fun e w' => e = .returned (.tuple #[.int .i64 0, .int .i64 (-1)]) ∧ w = w' := by
  go_enter Tryz.func40, Tryz.ntmps40
  go_wp2_with (go_at_call 57; refine (tell_nil _).mono ?_; rintro e w' ⟨rfl, rfl⟩)
  refine wp_loop_rounds 1 ?_
  rw [rounds_succ]
  go_wp2_with fail
  go_ret2
  exact ⟨rfl, rfl⟩

set_option maxRecDepth 100000 in
set_option maxHeartbeats 1000000 in
theorem place_errno (n : Int) (w : World) (hE : ErrTy w) :
    Calls Tryz.prog 40 #[.iface 24 (.int .i64 n)] w fun e w' => e = .returned (.tuple #[.int .i64 n, .int .i64 (-1)]) ∧ Below w.heap.size w w' := by
  have ta : ∀ W : World, (Instr.typeAssert (.iface 24 (.int .i64 n)) 28 106 true).run Tryz.prog W = .ok (.tuple #[.pointer none, .bool false]) W := fun W => by kernel_rfl
  have tu := @Go.run_typeAssert_lacksB Tryz.prog 24 109 .nilIface _ Tryz.underlying109 (by kernel_rfl) (by kernel_rfl) (.int .i64 n) 28
  go_enter Tryz.func40, Tryz.ntmps40
  go_wp2_with (go_at_call 57; refine (tell_errno n _ hE).mono ?_; rintro e w1 ⟨rfl, hb1⟩)
  refine wp_loop_rounds 1 ?_
  rw [rounds_succ]
  go_wp2_with fail
  go_ret2
  exact ⟨rfl, hb1⟩

set_option maxHeartbeats 1000000 in
theorem bare_make (m : Int) (w : World) :
    Calls Tryz.prog 23 #[.int .i64 m] w fun e w' => e = .returned (.agg #[.int .i64 m, .int .i64 (-1)]) ∧ Below w.heap.size w w' := by
  go_enter Tryz.func23, Tryz.ntmps23
  go_wp2_with fail
  exact bodyPost_ret (v := .agg #[.int .i64 m, .int .i64 (-1)]) (by simp [results, Tryz.results23, go_sem]) rfl ⟨rfl, (Below.refl _ _).alloc (Nat.le_refl _) _⟩
set_option maxRecDepth 100000 in
set_option maxHeartbeats 1000000 in
theorem is_nil (m : Int) (w : World) :
    Calls Tryz.prog 22 #[.nilIface, .agg #[.int .i64 m, .int .i64 (-1)]] w fun e w' => e = .returned (.bool ((0 : Int) == m)) ∧ Below w.heap.size w w' := by
  cases hm : ((0 : Int) == m)
  · have hne : ¬ (0 : Int) = m := by simpa using hm
    go_enter Tryz.func22, Tryz.ntmps22
    go_wp2_with (go_at_call 40; refine (place_nil _).mono ?_; rintro e w1 ⟨rfl, rfl⟩)
    go_ret
    exact ⟨rfl, (Below.refl _ _).alloc (Nat.le_refl _) _⟩
  · have hee : (0 : Int) = m := by simpa using hm
    subst hee
    clear hm
    go_enter Tryz.func22, Tryz.ntmps22
    go_wp2_with (go_at_call 40; refine (place_nil _).mono ?_; rintro e w1 ⟨rfl, rfl⟩)
    go_ret
    exact ⟨rfl, (Below.refl _ _).alloc (Nat.le_refl _) _⟩
set_option maxRecDepth 100000 in
set_option maxHeartbeats 1000000 in
theorem bare_nil (m : Int) (w : World) :
    Calls Tryz.prog 6 #[.nilIface, .int .i64 m] w fun e w' => e = .returned (.bool ((0 : Int) == m)) ∧ Below w.heap.size w w' := by
  go_enter Tryz.func6, Tryz.ntmps6
  go_wp2_with (first | (go_at_call 23; refine (bare_make m _).mono ?_; rintro e w1 ⟨rfl, hb1⟩) | (go_at_call 22; refine (is_nil m _).mono ?_; rintro e w2 ⟨rfl, hb2⟩))
  go_ret
  exact ⟨rfl, hb1.trans (hb2.mono hb1.size)⟩
set_option maxRecDepth 100000 in
set_option maxHeartbeats 1000000 in
theorem is_err (n m : Int) (w : World) (hE : ErrTy w) :
    Calls Tryz.prog 22 #[.iface 24 (.int .i64 n), .agg #[.int .i64 m, .int .i64 (-1)]] w fun e w' => e = .returned (.bool (n == m)) ∧ Below w.heap.size w w' := by
  cases hm : (n == m)
  · have hne : ¬ n = m := by simpa using hm
    go_enter Tryz.func22, Tryz.ntmps22
    go_wp2_with (go_at_call 40; refine (place_errno n (w.alloc _) (by exact errTy_below hE ((Below.refl _ _).alloc (Nat.le_refl _) _))).mono ?_; rintro e w1 ⟨rfl, hb1⟩; have c0 : w1.cell? ⟨w.heap.size, 0, none⟩ = some (.int .i64 m) := by { rw [hb1.cell (p := ⟨w.heap.size, 0, none⟩) (by simp)]; simp }; have c1 : w1.cell? ⟨w.heap.size, 1, none⟩ = some (.int .i64 (-1)) := by { rw [hb1.cell (p := ⟨w.heap.size, 1, none⟩) (by simp)]; simp })
    go_ret
    exact ⟨rfl, ((Below.refl _ _).alloc (Nat.le_refl _) _).trans (hb1.mono (by simp))⟩
  · have hee : n = m := by simpa using hm
    subst hee
    clear hm
    go_enter Tryz.func22, Tryz.ntmps22
    go_wp2_with (go_at_call 40; refine (place_errno n (w.alloc _) (by exact errTy_below hE ((Below.refl _ _).alloc (Nat.le_refl _) _))).mono ?_; rintro e w1 ⟨rfl, hb1⟩; have c0 : w1.cell? ⟨w.heap.size, 0, none⟩ = some (.int .i64 n) := by { rw [hb1.cell (p := ⟨w.heap.size, 0, none⟩) (by simp)]; simp }; have c1 : w1.cell? ⟨w.heap.size, 1, none⟩ = some (.int .i64 (-1)) := by { rw [hb1.cell (p := ⟨w.heap.size, 1, none⟩) (by simp)]; simp })
    go_ret
    exact ⟨rfl, ((Below.refl _ _).alloc (Nat.le_refl _) _).trans (hb1.mono (by simp))⟩
set_option maxRecDepth 100000 in
set_option maxHeartbeats 1000000 in
theorem bare_err (n m : Int) (w : World) (hE : ErrTy w) :
    Calls Tryz.prog 6 #[.iface 24 (.int .i64 n), .int .i64 m] w fun e w' => e = .returned (.bool (n == m)) ∧ Below w.heap.size w w' := by
  go_enter Tryz.func6, Tryz.ntmps6
  go_wp2_with (first | (go_at_call 23; refine (bare_make m _).mono ?_; rintro e w1 ⟨rfl, hb1⟩) | (go_at_call 22; refine (is_err n m _ (errTy_below hE hb1)).mono ?_; rintro e w2 ⟨rfl, hb2⟩))
  go_ret
  exact ⟨rfl, hb1.trans (hb2.mono hb1.size)⟩
end Go.Proofs.YtclelkoefeiloaaGreatDoor
