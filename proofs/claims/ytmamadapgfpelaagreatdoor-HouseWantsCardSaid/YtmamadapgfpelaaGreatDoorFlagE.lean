/- The walks over flags.Has, Print, Not: each returns what its plain function says. Conditions: flags.system lies as the program's text lays it. -/
import Derived.Test.YtmamadapgfpelaaGreatDoorFlagD
import Derived.Test.YtmamadapgfpelaaGreatDoorContS
import Derived.Lib.Join
namespace Go.Proofs.YtmamadapgfpelaaGreatDoor
open Go.RowKit Go.Shelf Go.Sort

/-- whether a flag is one of some -/
def hasF (l : List (List UInt8)) (s : List UInt8) : Bool := match nameF s with
  | .inl _ => false
  | .inr t => decide (t ∈ l)

/-- flags as they are written -/
def printFl (l : List (List UInt8)) : List UInt8 := [40] ++ Lib.join l [32] ++ [41]
theorem join_le : ∀ (l : List (List UInt8)), (∀ t ∈ l, t.length ≤ 100000) → (Lib.join l [32]).length ≤ l.length * 100001
  | [], _ => by simp [Lib.join]
  | [x], h => by
    have := h x (by simp)
    rw [Lib.join_one]
    simp only [List.length_cons, List.length_nil]; omega
  | x :: y :: r, h => by
    have h1 := h x (by simp)
    have ih := join_le (y :: r) (fun t ht => h t (List.mem_cons_of_mem _ ht))
    have e : Lib.join (x :: y :: r) [32] = x ++ [32] ++ Lib.join (y :: r) [32] := by simp [Lib.join, List.intercalate]
    rw [e, List.length_append, List.length_append]
    simp only [List.length_cons, List.length_nil] at ih ⊢
    omega

/-- the first ones without the others -/
def notF (a b : List (List UInt8)) : List (List UInt8) := a.filter fun s => !decide (s ∈ b)
theorem SRow.belowAt {w w' : World} {B : Nat} {v : Value} {l : List (List UInt8)} (h : SRow w v l) (hB : w.heap.size ≤ B) (hb : Below B w w') : SRow w' v l := h.below (hb.mono hB)

end Go.Proofs.YtmamadapgfpelaaGreatDoor
