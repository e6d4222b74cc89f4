/- (*sync.Once).Do of a replacer's method value, not yet done and the lock free. Conditions: what the function does is a contract; the once's words stay as they are. -/
import Derived.Test.YtclelkoefeiloaaGreatDoorOnce
namespace Go.Proofs.YtclelkoefeiloaaGreatDoor
open Go.RowKit Go.Shelf Go.Sort Go.MuLone

/-- the once of the replacer at R: its word, its lock's state -/
def OnceW (R : Nat) (d s : Int) (w : World) : Prop := w.cell? ⟨R, 0, none⟩ = some (.int .u32 d) ∧ w.cell? ⟨R, 1, none⟩ = some (.int .i32 s) ∧ w.frozen? ⟨R, 0, none⟩ = false ∧ w.frozen? ⟨R, 1, none⟩ = false
theorem OnceW.lock {R : Nat} {w : World} (h : OnceW R 0 0 w) : OnceW R 0 1 (w.setCell ⟨R, 1, none⟩ (.int .i32 1)) := by
  obtain ⟨h0, h1, f0, f1⟩ := h
  exact ⟨(World.cell?_setCell_other _ ⟨R, 1, none⟩ ⟨R, 0, none⟩ _ (by simp)).trans h0, World.cell?_setCell_same _ _ _ h1, by simp [f0], by simp [f1]⟩
set_option maxRecDepth 100000 in
set_option maxHeartbeats 1600000 in
theorem slow_any (R : Nat) (w : World) (T : World → Prop) (h : OnceW R 0 0 w)
    (hf : Calls Tryz.prog 44 #[.pointer (some ⟨R, 0, none⟩)] (w.setCell ⟨R, 1, none⟩ (.int .i32 1)) fun e w' => e = .returned (.tuple #[]) ∧ T w' ∧ OnceW R 0 1 w') :
    Calls Tryz.prog 60 #[.pointer (some ⟨R, 0, none⟩), .func (.func 44) #[.pointer (some ⟨R, 0, none⟩)] #[]] w fun e w' => e = .returned (.tuple #[]) ∧
      ∃ w2, T w2 ∧ w' = (w2.drew.setCell ⟨R, 0, none⟩ (.int .u32 1)).setCell ⟨R, 1, none⟩ (.int .i32 0) := by
  have hk := h.lock
  obtain ⟨h0, h1, f0, f1⟩ := h
  obtain ⟨k0, k1, g0, g1⟩ := hk
  have hnot : ∀ (x : Bool) (w : World), (Op.unary .not (.bool x)).run Tryz.prog w = .ok (.bool (!x)) w := fun _ _ => rfl
  have hl := lock_free muLib ⟨R, 1, none⟩ w h1 f1
  have hL := load_nought ⟨R, 0, none⟩ _ k0
  go_enter_defers Tryz.func60, Tryz.ntmps60
  go_wp2_with (first
    | (go_at_call 82; refine hl.mono ?_; rintro e w' ⟨rfl, rfl⟩)
    | (go_at_call 59; refine hL.mono ?_; rintro e w' ⟨rfl, rfl⟩)
    | (go_at_call 44; refine hf.mono ?_; rintro e w2 ⟨rfl, hT, m0, m1, n0, n1⟩))
  trace_state
  refine leaves_cons (f := 84) (args := #[.pointer (some ⟨R, 0, none⟩), .bool true]) (by simp) (by simp [go_sem]) ?_
  refine (store_deferred ⟨R, 0, none⟩ (.int .u32 0) .returning _ m0 n0).mono ?_
  rintro e u' w'' ⟨rfl, rfl, rfl⟩
  refine leaves_cons (f := 83) (args := #[.pointer (some ⟨R, 1, none⟩)]) (by simp [settle]) (by simp [go_sem]) ?_
  refine (unlock_deferred muLib ⟨R, 1, none⟩ _ _ ?_ (by simp [n1])).mono ?_
  · refine (World.cell?_setCell_other _ ⟨R, 0, none⟩ ⟨R, 1, none⟩ _ (by simp)).trans ?_
    rw [World.cell?_drew]
    exact m1
  rintro e u' w'' ⟨rfl, rfl, rfl⟩
  simp [Leaves, settle, results, Tryz.results60]
  exact ⟨w2, hT, rfl⟩
set_option maxRecDepth 100000 in
set_option maxHeartbeats 1600000 in
theorem do_any (R : Nat) (w : World) (T : World → Prop) (h : OnceW R 0 0 w)
    (hf : Calls Tryz.prog 44 #[.pointer (some ⟨R, 0, none⟩)] (w.setCell ⟨R, 1, none⟩ (.int .i32 1)) fun e w' => e = .returned (.tuple #[]) ∧ T w' ∧ OnceW R 0 1 w') :
    Calls Tryz.prog 43 #[.pointer (some ⟨R, 0, none⟩), .func (.func 44) #[.pointer (some ⟨R, 0, none⟩)] #[]] w fun e w' => e = .returned (.tuple #[]) ∧
      ∃ w2, T w2 ∧ w' = (w2.drew.setCell ⟨R, 0, none⟩ (.int .u32 1)).setCell ⟨R, 1, none⟩ (.int .i32 0) := by
  have hS := slow_any R w T h hf
  have hnot : ∀ (x : Bool) (w : World), (Op.unary .not (.bool x)).run Tryz.prog w = .ok (.bool (!x)) w := fun _ _ => rfl
  have hL := load_nought ⟨R, 0, none⟩ w h.1
  go_enter Tryz.func43, Tryz.ntmps43
  go_wp2_with (first
    | (go_at_call 59; refine hL.mono ?_; rintro e w' ⟨rfl, rfl⟩)
    | (go_at_call 60; refine hS.mono ?_; rintro e w' ⟨rfl, h2⟩))
  go_end0
  exact ⟨rfl, h2⟩
end Go.Proofs.YtclelkoefeiloaaGreatDoor
