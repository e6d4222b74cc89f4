/- The walks over house.New and a house's Create. Conditions: utf8's two tables and bytealg.MaxLen lie as the program's text lays them. -/
import Derived.Test.YtnhcccakgkoggaaGreatDoorHouC
import Derived.Test.YtnhcccakgkoggaaGreatDoorPHouse3
namespace Go.Proofs.YtnhcccakgkoggaaGreatDoor
open Go.RowKit Go.Shelf Go.Sort Go.Maps

def emptyH : HouseC := ⟨[], fun _ => ⟨0, 0, 0, .slice none 0 0⟩, [], 1⟩
/-- a new house -/
def NewS (w : World) (e : Ending) (w' : World) : Prop := ∃ H mb mw B, e = .returned (.pointer (some ⟨H, 0, none⟩)) ∧ HouseS w.heap.size w' H mb mw (makeC emptyH inboxB B) ∧ Below w.heap.size w w'
theorem house_empty (w : World) {H : Nat} (hH : H = w.heap.size + 2) : HouseS w.heap.size (((w.alloc (.map #[] 0)).alloc (.map #[] 0)).alloc (.cells #[.map (some w.heap.size), .map (some (w.heap.size + 1)), .int .i64 1] 42)) H w.heap.size (w.heap.size + 1) emptyH := by
  subst hH
  have s1 := alloc_size w (.map #[] 0)
  have s2 := alloc_size (w.alloc (.map #[] 0)) (.map #[] 0)
  have hn := World.heap_alloc_new ((w.alloc (.map #[] 0)).alloc (.map #[] 0)) (.cells #[.map (some w.heap.size), .map (some (w.heap.size + 1)), .int .i64 1] 42)
  rw [s2, s1] at hn
  refine { loH := by omega, lob := Nat.le_refl _, low := by omega, cells := hn, boxes := ?_, wants := ?_, ne := by omega, box := fun x hx => (by cases hx), inj := fun x hx => (by cases hx), lenL := fun x hx => (by cases hx), lenW := fun x hx => (by cases hx) }
  · exact (pm_made w _).below (((Below.refl _ _).alloc (Nat.le_refl _) _).alloc (by omega) _)
  · have := wm_made (w.alloc (.map #[] 0))
    rw [s1] at this
    exact this.below ((Below.refl _ _).alloc (Nat.le_refl _) _)
theorem house_bound {w w' : World} {N H mb : Nat} (hk : Kept (fun k => k = H ∨ k = mb) w w') (hN : N ≤ w.heap.size) (h1 : N ≤ H) (h2 : N ≤ mb) : Below N w w' := hk.below hN (fun k e => e.elim (fun e => e ▸ h1) (fun e => e ▸ h2))
set_option maxRecDepth 100000 in
set_option maxHeartbeats 2000000 in
theorem hnew_any (w : World) : Calls Tryz.prog 10 #[] w (NewS w) := by
  have hmm := @run_makeMap Tryz.prog
  have hE := house_empty w rfl
  have cM := hmake_any w.heap.size (w.heap.size + 2) w.heap.size (w.heap.size + 1) emptyH inboxB _ hE (by simp; omega) (by decide) (by decide) (by decide) (by decide) (by decide)
  have hB := (((Below.refl w.heap.size w).alloc (Nat.le_refl _) (.map #[] 0)).alloc (by simp) (.map #[] 0)).alloc (by simp; omega) (.cells #[.map (some w.heap.size), .map (some (w.heap.size + 1)), .int .i64 1] 42)
  have hl : inboxB.toArray = #[73, 78, 66, 79, 88] := rfl
  rw [hl] at cM
  clear hl hE
  go_enter Tryz.func10, Tryz.ntmps10
  go_wp2_with (go_at_call 21; ((with_reducible refine cM.mono ?_); rintro e w1 ⟨rfl, B, hB1, hS1, hK1⟩))
  go_ret
  exact ⟨_, _, _, B, rfl, hS1, hB.trans (house_bound hK1 hB.size (by omega) (Nat.le_refl _))⟩
end Go.Proofs.YtnhcccakgkoggaaGreatDoor
