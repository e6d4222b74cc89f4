/- sync.Once in one goroutine, over a method value of a replacer: the lock is free, the function is called once. No condition beyond those each names. -/
import Derived.Test.YtciekajclfnnpaaGreatDoorRepA
import Derived.Conc.MuLone
import Derived.Conc.RwLib
import Derived.Conc.MuData
import Derived.Defers
import Derived.RegionTactic
import Derived.RegionCalls
import Derived.Laws.LoneSync
import Derived.Laws.NewBlocks
import Derived.KernelRfl
namespace Go.Proofs.YtciekajclfnnpaaGreatDoor
open Go.RowKit Go.Shelf Go.Sort Go.MuLone

abbrev muLink : Go.Conc.Locks.MuLink := { lock := 62, unlock := 63, ilock := 83, iunlock := 84, lockSlow := 101, unlockSlow := 104, disable := 97, enable := 99, acquire := 100, relMerge := 102, cas32 := 98, add32 := 103, tMutex := 63, tIMutex := 61, tPMutex := 138, tPIMutex := 164, tPI32 := 166, tUP := 118, tNoCopy := 55, tU32 := 57 }
theorem muLib : Go.Conc.Locks.MuLib Tryz.prog muLink :=
  ⟨Tryz.func62, Tryz.func63, Tryz.func83, Tryz.func84, Tryz.func97, Tryz.func99, Tryz.func100, Tryz.func102, Tryz.func98, Tryz.func103, Tryz.underlying61, Tryz.runUnderlying61, Tryz.sizeOf61, Tryz.isAgg61, Tryz.zeroValue61, Tryz.underlying63, Tryz.runUnderlying63, Tryz.sizeOf63, Tryz.isAgg63, Tryz.zeroValue63, Tryz.underlying138, Tryz.runUnderlying138, Tryz.sizeOf138, Tryz.isAgg138, Tryz.zeroValue138, Tryz.underlying164, Tryz.runUnderlying164, Tryz.sizeOf164, Tryz.isAgg164, Tryz.zeroValue164, Tryz.underlying166, Tryz.runUnderlying166, Tryz.sizeOf166, Tryz.isAgg166, Tryz.zeroValue166, Tryz.underlying118, Tryz.runUnderlying118, Tryz.sizeOf118, Tryz.isAgg118, Tryz.zeroValue118, Tryz.underlying55, Tryz.runUnderlying55, Tryz.sizeOf55, Tryz.isAgg55, Tryz.zeroValue55, Tryz.underlying21, Tryz.runUnderlying21, Tryz.sizeOf21, Tryz.isAgg21, Tryz.zeroValue21, (by kernel_rfl)⟩
/-- '(*sync/atomic.Bool).Store(true)', entered as a deferred call -/
theorem store_deferred (a : Addr) (x : Value) (u : FrameMode) (w : World) (hc : w.cell? a = some x) (hz : w.frozen? a = false) :
    CallsD Tryz.prog 64 #[.pointer (some a), .bool true] u w fun e u' w' => u' = u ∧ (e = .returned (.tuple #[]) ∧ w' = w.drew.setCell a (.int .u32 1)) := by
  have hc' : w.drew.cell? a = some x := by go_simp
  have hz' : w.drew.frozen? a = false := by go_simp
  have hst := run_call_store (P := Tryz.prog) Tryz.func85 (by kernel_rfl) (by kernel_rfl) (by kernel_rfl) (by kernel_rfl) (k := .u32) (y := 1) hc' hz'
  go_enter_d Tryz.func64, Tryz.ntmps64
  go_wp2
  go_region_calls
  all_goals (go_end0; exact ⟨rfl, rfl⟩)
/-- '(*sync/atomic.Bool).Load' of a word that is nought -/
theorem load_nought (a : Addr) (w : World) (hc : w.cell? a = some (.int .u32 0)) :
    Calls Tryz.prog 40 #[.pointer (some a)] w fun e w' => e = .returned (.bool false) ∧ w = w' := by
  have hl := run_call_load (P := Tryz.prog) Tryz.func61 (by kernel_rfl) (by kernel_rfl) (by kernel_rfl) .u32 (by kernel_rfl) hc
  go_enter Tryz.func40, Tryz.ntmps40
  go_wp2
  go_ret
  exact ⟨rfl, rfl⟩
end Go.Proofs.YtciekajclfnnpaaGreatDoor
