/- sync.Once in one goroutine, over a method value of a replacer: the lock is free, the function is called once. No condition beyond those each names. -/
import Derived.Test.YtclelkoefeiloaaGreatDoorRepA
import Derived.Conc.MuLone
import Derived.Conc.RwLib
import Derived.Conc.MuData
import Derived.Defers
import Derived.RegionTactic
import Derived.RegionCalls
import Derived.Laws.LoneSync
import Derived.Laws.NewBlocks
import Derived.KernelRfl
namespace Go.Proofs.YtclelkoefeiloaaGreatDoor
open Go.RowKit Go.Shelf Go.Sort Go.MuLone

abbrev muLink : Go.Conc.Locks.MuLink := { lock := 82, unlock := 83, ilock := 103, iunlock := 104, lockSlow := 120, unlockSlow := 123, disable := 116, enable := 118, acquire := 119, relMerge := 121, cas32 := 117, add32 := 122, tMutex := 84, tIMutex := 82, tPMutex := 178, tPIMutex := 209, tPI32 := 211, tUP := 150, tNoCopy := 76, tU32 := 78 }
theorem muLib : Go.Conc.Locks.MuLib Tryz.prog muLink :=
  ⟨Tryz.func82, Tryz.func83, Tryz.func103, Tryz.func104, Tryz.func116, Tryz.func118, Tryz.func119, Tryz.func121, Tryz.func117, Tryz.func122, Tryz.underlying82, Tryz.runUnderlying82, Tryz.sizeOf82, Tryz.isAgg82, Tryz.zeroValue82, Tryz.underlying84, Tryz.runUnderlying84, Tryz.sizeOf84, Tryz.isAgg84, Tryz.zeroValue84, Tryz.underlying178, Tryz.runUnderlying178, Tryz.sizeOf178, Tryz.isAgg178, Tryz.zeroValue178, Tryz.underlying209, Tryz.runUnderlying209, Tryz.sizeOf209, Tryz.isAgg209, Tryz.zeroValue209, Tryz.underlying211, Tryz.runUnderlying211, Tryz.sizeOf211, Tryz.isAgg211, Tryz.zeroValue211, Tryz.underlying150, Tryz.runUnderlying150, Tryz.sizeOf150, Tryz.isAgg150, Tryz.zeroValue150, Tryz.underlying76, Tryz.runUnderlying76, Tryz.sizeOf76, Tryz.isAgg76, Tryz.zeroValue76, Tryz.underlying21, Tryz.runUnderlying21, Tryz.sizeOf21, Tryz.isAgg21, Tryz.zeroValue21, (by kernel_rfl)⟩
/-- '(*sync/atomic.Bool).Store(true)', entered as a deferred call -/
theorem store_deferred (a : Addr) (x : Value) (u : FrameMode) (w : World) (hc : w.cell? a = some x) (hz : w.frozen? a = false) :
    CallsD Tryz.prog 84 #[.pointer (some a), .bool true] u w fun e u' w' => u' = u ∧ (e = .returned (.tuple #[]) ∧ w' = w.drew.setCell a (.int .u32 1)) := by
  have hc' : w.drew.cell? a = some x := by go_simp
  have hz' : w.drew.frozen? a = false := by go_simp
  have hst := run_call_store (P := Tryz.prog) Tryz.func105 (by kernel_rfl) (by kernel_rfl) (by kernel_rfl) (by kernel_rfl) (k := .u32) (y := 1) hc' hz'
  go_enter_d Tryz.func84, Tryz.ntmps84
  go_wp2
  go_region_calls
  all_goals (go_end0; exact ⟨rfl, rfl⟩)
/-- '(*sync/atomic.Bool).Load' of a word that is nought -/
theorem load_nought (a : Addr) (w : World) (hc : w.cell? a = some (.int .u32 0)) :
    Calls Tryz.prog 59 #[.pointer (some a)] w fun e w' => e = .returned (.bool false) ∧ w = w' := by
  have hl := run_call_load (P := Tryz.prog) Tryz.func81 (by kernel_rfl) (by kernel_rfl) (by kernel_rfl) .u32 (by kernel_rfl) hc
  go_enter Tryz.func59, Tryz.ntmps59
  go_wp2
  go_ret
  exact ⟨rfl, rfl⟩
end Go.Proofs.YtclelkoefeiloaaGreatDoor
