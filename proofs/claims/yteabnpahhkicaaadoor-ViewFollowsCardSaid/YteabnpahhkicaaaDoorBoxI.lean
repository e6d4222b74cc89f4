/- The statements' closures for Expunge: which letters they hold of. Condition: none. -/
import Derived.Test.YteabnpahhkicaaaDoorBoxH
import Derived.Test.YteabnpahhkicaaaDoorPPost
namespace Go.Proofs.YteabnpahhkicaaaDoor
open Go.RowKit Go.Shelf Go.Sort

theorem int_info : (Tryd.prog.info? 3).map (fun i => (i.zero, i.size, i.bytes)) = some (some (.int .i64 0), 1, 8) := by kernel_rfl
set_option maxRecDepth 100000 in
set_option maxHeartbeats 1000000 in
theorem post1_any (n uid : Int) (X : Nat) (w : World) (h : w.cell? ⟨X, 2, none⟩ = some (.int .i64 n)) (h0 : 0 ≤ uid) (h1 : uid ≤ 9223372036854775807) (h2 : -9223372036854775808 ≤ n) (h3 : n ≤ 9223372036854775807) :
    Calls Tryd.prog 18 #[.int .i64 uid, .pointer (some ⟨X, 0, none⟩)] w fun e w' => e = .returned (.bool (holF n uid)) ∧ w = w' := by
  unfold holF
  by_cases hn : n.tmod 3 = 0
  · go_enter Tryd.func18, Tryd.ntmps18
    go_wp2_with fail
    all_goals go_ret
    all_goals exact ⟨by simp [hn], rfl⟩
  · go_enter Tryd.func18, Tryd.ntmps18
    go_wp2_with fail
    all_goals go_ret
    all_goals exact ⟨by rw [show (n.tmod 3 == 0) = false from beq_eq_false_iff_ne.2 hn, decide_eq_false hn]; rw [Bool.false_or, Bool.false_or]; congr 2, rfl⟩
theorem boxed1_any (uid : Int) (w : World) : Calls Tryd.prog 16 #[.int .i64 uid] w fun e w' => e = .returned (.bool true) ∧ w = w' := by
  go_enter Tryd.func16, Tryd.ntmps16
  go_wp2_with fail
  go_ret
  exact ⟨rfl, rfl⟩
end Go.Proofs.YteabnpahhkicaaaDoor
