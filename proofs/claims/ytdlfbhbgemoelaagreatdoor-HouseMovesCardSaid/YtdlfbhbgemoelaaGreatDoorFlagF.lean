/- The walks over slices.Grow, slices.Concat at rows of texts, and flags.Or: each returns what its plain function says. Conditions: flags.system lies as the program's text lays it. -/
import Derived.Test.YtdlfbhbgemoelaaGreatDoorFlagE
import Derived.Test.YtdlfbhbgemoelaaGreatDoorAppS
import Derived.Shelf.Spec.SlicesGrow
import Derived.Laws.AppendOwnNone
namespace Go.Proofs.YtdlfbhbgemoelaaGreatDoor
open Go.RowKit Go.Shelf Go.Sort

theorem zeros_size (k : Nat) : (Builtin.zeroCells (Value.string ByteArray.empty).cells k).size = k := by simp [Builtin.zeroCells, Value.cells]

def restL (a b : List (List UInt8)) : Nat → List (List UInt8)
  | 0 => a ++ b
  | 1 => b
  | _ => []
def sumN (a b : List (List UInt8)) : Nat → Nat
  | 0 => 0
  | 1 => a.length
  | _ => a.length + b.length

end Go.Proofs.YtdlfbhbgemoelaaGreatDoor
