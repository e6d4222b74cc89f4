/- A block of bytes that is made: what it holds; a store, a copy into it. No condition beyond those each names. -/
import Derived.Test.YtclelkoefeiloaaGreatDoorBytes
import Derived.Test.YtclelkoefeiloaaGreatDoorKit2
import Derived.Laws.CopyRow
import Derived.Deep.OwnRows
namespace Go.Proofs.YtclelkoefeiloaaGreatDoor
open Go.RowKit

def bufC (l : List UInt8) : Array Value := (l.map fun b => Value.int .u8 (b.toNat : Int)).toArray
/-- a block that holds just these bytes -/
def BufAt (W : World) (g : Nat) (l : List UInt8) : Prop := W.heap[g]? = some (.cells (bufC l) 5 (0, 0))
theorem BufAt.cell {W : World} {g : Nat} {l : List UInt8} (h : BufAt W g l) {j : Nat} {x : UInt8} (hj : l[j]? = some x) : W.cell? ⟨g, j, none⟩ = some (.int .u8 (x.toNat : Int)) := by
  rw [Lib.cell_of_heap h]
  simp [bufC, hj]
theorem BufAt.free {W : World} {g : Nat} {l : List UInt8} (h : BufAt W g l) (j : Nat) : W.frozen? ⟨g, j, none⟩ = false := by
  unfold BufAt at h
  simp [World.frozen?, h]
theorem BufAt.row {W : World} {g : Nat} {l : List UInt8} (h : BufAt W g l) (n cap : Nat) (hn : n = l.length) : RowAt W (.slice (some ⟨g, 0, none⟩) n cap) (Lib.byteCells l) := by
  subst hn
  refine Or.inr ⟨g, 0, cap, by rw [Lib.byteCells_length], (Array.getElem?_eq_some_iff.1 h).1, ?_⟩
  intro j u hj
  simp [Lib.byteCells] at hj
  obtain ⟨x, hx, rfl⟩ := hj
  rw [Nat.zero_add]
  exact h.cell (by simpa using hx)
theorem BufAt.put {W : World} {g : Nat} {l : List UInt8} (h : BufAt W g l) (j : Nat) (y : UInt8) : BufAt (W.setCell ⟨g, j, none⟩ (.int .u8 (y.toNat : Int))) g (l.set j y) := by
  unfold BufAt at h ⊢
  rw [setCell_eq_setRow W g j _ _ _ _ h]
  have := setRow_heap W g (bufC l) ((bufC l).setIfInBounds j (.int .u8 (y.toNat : Int))) _ _ h
  rw [show bufC (l.set j y) = (bufC l).setIfInBounds j (.int .u8 (y.toNat : Int)) by simp [bufC, List.map_set]]
  simpa using this
theorem buf_step (P : List UInt8) (m : Nat) (c : UInt8) : (P ++ List.replicate (m + 1) 0).set P.length c = (P ++ [c]) ++ List.replicate m 0 := by
  rw [List.set_append_right _ _ (Nat.le_refl _), Nat.sub_self, List.replicate_succ, List.set_cons_zero, List.append_assoc]
  rfl
theorem buf_made (n : Nat) : madeCells #[Value.int .u8 0] n = bufC (List.replicate n 0) := by
  apply Array.ext_getElem?
  intro i
  by_cases hi : i < n
  · simp [madeCells, bufC, hi, Nat.mod_one]
  · simp [madeCells, bufC, hi]
theorem u8_info : (Tryz.prog.info? 5).map (fun i => (i.zero, i.size, i.bytes)) = some (some (.int .u8 0), 1, 1) := by kernel_rfl
theorem below_setRow {B : Nat} {W W' : World} (h : Below B W W') {g : Nat} (hg : B ≤ g) (cs : Array Value) : Below B W (W'.setRow g cs) :=
  ⟨h.os, h.tape, h.output, by simpa [World.setRow] using h.size, fun k hk => by
    have e : (W'.setRow g cs).heap[k]? = W'.heap[k]? := by
      unfold World.setRow
      rw [Array.getElem?_modify, if_neg (by omega)]
    exact e.trans (h.block k hk)⟩
/-- copy into the buffer's middle -/
theorem BufAt.copied {W : World} {g : Nat} {P x : List UInt8} {m : Nat} (h : BufAt W g (P ++ List.replicate (x.length + m) 0)) {gx cx cap : Nat} (hx : ∀ (j : Nat) (y : UInt8), x[j]? = some y → W.cell? ⟨gx, j, none⟩ = some (.int .u8 (y.toNat : Int))) :
    (Builtin.copy_ #[93, 93] 3 #[.slice (some ⟨g, P.length, none⟩) (x.length + m) cap, .slice (some ⟨gx, 0, none⟩) x.length cx]).run Tryz.prog W = .ok (goInt x.length) (W.setRow g (bufC (P ++ x ++ List.replicate m 0))) ∧ BufAt (W.setRow g (bufC (P ++ x ++ List.replicate m 0))) g (P ++ x ++ List.replicate m 0) := by
  refine ⟨?_, setRow_heap W g _ _ _ _ h⟩
  have hl : ((x.map fun b => Value.int .u8 (b.toNat : Int))).length = x.length := by simp
  have := run_copy_row (P := Tryz.prog) W 93 93 3 5 g P.length (x.length + m) cap ⟨gx, 0, none⟩ x.length cx (bufC (P ++ List.replicate (x.length + m) 0)) 5 (x.map fun b => Value.int .u8 (b.toNat : Int)) Tryz.underlying93 (by kernel_rfl) h (by rw [hl]; simp) (fun j v hj => by
    rw [List.getElem?_map] at hj
    obtain ⟨y, hy, rfl⟩ := Option.map_eq_some_iff.1 hj
    rw [add_pl, Nat.zero_add]
    exact hx j y hy) (by rw [hl]; simp [bufC]) (fun v hv => by
    obtain ⟨y, _, rfl⟩ := List.mem_map.1 hv
    rfl)
  have e1 : (bufC (P ++ List.replicate (x.length + m) 0)).toList = (P.map fun b => Value.int .u8 (b.toNat : Int)) ++ List.replicate (x.length + m) (Value.int .u8 0) := by simp [bufC]
  have e2 : ((P.map fun b => Value.int .u8 (b.toNat : Int)) ++ List.replicate (x.length + m) (Value.int .u8 0)).take P.length = P.map fun b => Value.int .u8 (b.toNat : Int) := by
    rw [List.take_append_of_le_length (by simp), List.take_of_length_le (by simp)]
  have e3 : ((P.map fun b => Value.int .u8 (b.toNat : Int)) ++ List.replicate (x.length + m) (Value.int .u8 0)).drop (P.length + x.length) = List.replicate m (Value.int .u8 0) := by
    rw [List.drop_append, List.drop_of_length_le (by simp)]
    simp
  rw [hl, e1, e2, e3] at this
  rw [this]
  have e4 : bufC (P ++ x ++ List.replicate m 0) = ((P.map fun b => Value.int .u8 (b.toNat : Int)) ++ (x.map fun b => Value.int .u8 (b.toNat : Int)) ++ List.replicate m (Value.int .u8 0)).toArray := by simp [bufC]
  rw [e4]
end Go.Proofs.YtclelkoefeiloaaGreatDoor
