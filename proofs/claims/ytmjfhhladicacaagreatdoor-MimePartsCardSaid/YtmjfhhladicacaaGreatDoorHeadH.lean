/- The walk over head.Print: it returns what its plain function says. No condition beyond those it names. -/
import Derived.Test.YtmjfhhladicacaaGreatDoorHeadE
import Derived.Test.YtmjfhhladicacaaGreatDoorBuilder
import Derived.Test.YtmjfhhladicacaaGreatDoorPHead3
namespace Go.Proofs.YtmjfhhladicacaaGreatDoor
open Go.RowKit Go.Shelf

theorem bld_write (B b : Nat) (out l : List UInt8) (w : World) (h : Lib.IsBuilderF 56 5 B b (Lib.byteCells out) w) (hlen : out.length + l.length ≤ 140737488355328) (hBw : B ≤ w.heap.size) :
    Calls Tryz.prog 19 #[.pointer (some ⟨b, 0, none⟩), .string ⟨l.toArray⟩] w fun e w' => e = .returned (.tuple #[.int .i64 l.length, .nilIface]) ∧ (Lib.IsBuilderF 56 5 B b (Lib.byteCells (out ++ l)) w' ∧ Below B w w') := by
  refine (bld_WriteString B b (Lib.byteCells out) ⟨l.toArray⟩ w h (by rw [Lib.byteCells_length, text_size]; exact hlen) hBw).mono ?_
  rw [text_size]
  rintro e w' ⟨rfl, h1, h2, _⟩
  refine ⟨rfl, Or.inr ?_, h2⟩
  rw [Lib.byteCells_append]
  exact h1
def linesF (l : List Fld) : List UInt8 := l.flatMap fun f => lineF f ++ [13, 10]
theorem lines_step {l : List Fld} {k : Nat} {f : Fld} (hf : l[k]? = some f) : linesF (l.take (k + 1)) = linesF (l.take k) ++ (lineF f ++ [13, 10]) := by
  rw [List.take_add_one, hf]
  simp [linesF]
theorem print_lines (l : List Fld) : printF l = linesF l ++ [13, 10] := rfl

end Go.Proofs.YtmjfhhladicacaaGreatDoor
