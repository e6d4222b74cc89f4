/- The walk over box.Right of a box that may be. Condition: flags.system lies as the program's text lays it. -/
import Derived.Test.YteabnpahhkicaaaDoorBoxB
namespace Go.Proofs.YteabnpahhkicaaaDoor
open Go.RowKit Go.Shelf Go.Sort

theorem set_is {l x : List (List UInt8)} (hs : setF l = .inr x) (v : Value) (w : World) (hv : SRow w v l) (hl : Short l) (hG : FlagG w) :
    Calls Tryd.prog 27 #[v] w fun e w' => ∃ sv, e = .returned (.tuple #[sv, .nilIface]) ∧ Hid (TRow w' sv x) ∧ Below w.heap.size w w' := by
  refine (set_any v l w hv hl hG).mono ?_
  rw [hs]
  rintro e w' ⟨r, rfl, ⟨sv, rfl, h1⟩, h2⟩
  exact ⟨sv, rfl, h1, h2⟩
theorem set_is2 {l x : List (List UInt8)} (hs : setF l = .inr x) (v : Value) (w : World) (hv : SRow w v l) (hl : Short l) (hG : FlagG w) :
    Calls Tryd.prog 27 #[v] w fun e w' => ∃ sa sc, e = .returned (.tuple #[.slice sa x.length sc, .nilIface]) ∧ Hid (TRow w' (.slice sa x.length sc) x) ∧ Below w.heap.size w w' := (set_is hs v w hv hl hG).mono (by
  rintro e w' ⟨sv, rfl, h1, h2⟩
  have h1' := h1.out.1
  obtain ⟨sa, sc, rfl, _⟩ := h1'
  exact ⟨sa, sc, rfl, h1, h2⟩)
theorem flags_short {f : List (List UInt8)} (h : setF f = .inr f) : Short f := ⟨by have := (set_ok h).2.2; omega, fun t ht => by have := set_short h t ht; omega⟩
theorem four_cells {w : World} {U : Nat} {a b c d : Value} {t : TypeId} {fz : Nat × Nat} (h : w.heap[U]? = some (.cells #[a, b, c, d] t fz)) : w.cell? ⟨U, 0, none⟩ = some a ∧ w.cell? ⟨U, 1, none⟩ = some b ∧ w.cell? ⟨U, 2, none⟩ = some c ∧ w.cell? ⟨U, 3, none⟩ = some d :=
  ⟨by rw [Lib.cell_of_heap h]; rfl, by rw [Lib.cell_of_heap h]; rfl, by rw [Lib.cell_of_heap h]; rfl, by rw [Lib.cell_of_heap h]; rfl⟩

end Go.Proofs.YteabnpahhkicaaaDoor
