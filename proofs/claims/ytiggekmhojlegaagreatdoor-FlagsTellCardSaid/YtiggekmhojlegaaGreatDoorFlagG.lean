/- The walks over the statements' words on flags: texts, flagged, pick, slices.Equal of equal rows. Conditions: flags.system lies as the program's text lays it. -/
import Derived.Test.YtiggekmhojlegaaGreatDoorFlagF
namespace Go.Proofs.YtiggekmhojlegaaGreatDoor
open Go.RowKit Go.Shelf Go.Sort

/-- texts are short enough to be held -/
def textsF (l : List (List UInt8)) : Bool := decide (l.length ≤ 40) && l.all fun t => decide (t.length ≤ 100)
theorem texts_short {l : List (List UInt8)} (h : textsF l = true) : Short l ∧ l.length ≤ 40 := by
  unfold textsF at h
  rw [Bool.and_eq_true, decide_eq_true_eq, List.all_eq_true] at h
  exact ⟨⟨by omega, fun t ht => by have := h.2 t ht; rw [decide_eq_true_eq] at this; omega⟩, h.1⟩

/-- a choice among some -/
def pickF (a : Int) (n : Nat) : Nat := ((IntKind.u64.wrap a).tmod (n : Int)).toNat
theorem u_pos (a : Int) : 0 ≤ IntKind.u64.wrap a := by
  simp only [IntKind.wrap, IntKind.bits, IntKind.signed]
  exact Int.emod_nonneg _ (by decide)
theorem pick_val (a : Int) {n : Nat} (h : 0 < n) : (IntKind.u64.wrap a).tmod (n : Int) = (pickF a n : Int) := by
  unfold pickF
  have h1 := Int.tmod_nonneg (n : Int) (u_pos a)
  omega
theorem pick_lt (a : Int) {n : Nat} (h : 0 < n) : pickF a n < n := by
  have h1 := pick_val a h
  have h2 := Int.tmod_lt_of_pos (IntKind.u64.wrap a) (show (0 : Int) < (n : Int) by omega)
  omega

def flS : List (List UInt8) := [[98], [92, 115, 101, 101, 110], [97], [98]]
def flX : List (List UInt8) := [[92, 83, 101, 101, 110], [97], [98]]
theorem fl_set : setF flS = .inr flX := by decide +kernel
theorem fl_print : printFl flX = [40, 92, 83, 101, 101, 110, 32, 97, 32, 98, 41] := by decide +kernel
theorem fl_has : hasF flX [92, 83, 69, 69, 78] = true := by decide +kernel
end Go.Proofs.YtiggekmhojlegaaGreatDoor
