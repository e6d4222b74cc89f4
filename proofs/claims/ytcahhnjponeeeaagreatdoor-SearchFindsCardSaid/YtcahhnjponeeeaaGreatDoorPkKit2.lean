/- Small laws of my own for the walks, over any program: an append of one element, a slice that reads as a list, what stays below. No condition beyond those each names. What stays as it was: builders, owned rows, single blocks, over any program. No condition beyond those each names. -/
import Derived.WalkKit
import Derived.WalkSpells
import Derived.WalkLawsBesides
import Derived.Laws.BitsAllLaws
import Derived.Deep.LoopGhost
import Derived.Lib.Hide
import Derived.Lib.FrozenHead2
namespace Go.Proofs.YtcahhnjponeeeaaGreatDoor
open Go.RowKit
/-- a slice value that reads as a list of values -/
def RowAt (w : World) (v : Value) (xs : List Value) : Prop :=
  (v = .slice none 0 0 ∧ xs = []) ∨ ∃ b off cap, v = .slice (some ⟨b, off, none⟩) xs.length cap ∧ b < w.heap.size ∧ ∀ j u, xs[j]? = some u → w.cell? ⟨b, off + j, none⟩ = some u
theorem RowAt.mono {w w' : World} {v : Value} {xs : List Value} (h : RowAt w v xs) (hb : Below w.heap.size w w') : RowAt w' v xs := by
  rcases h with h | ⟨b, off, cap, rfl, hlt, hc⟩
  · exact Or.inl h
  · exact Or.inr ⟨b, off, cap, rfl, Nat.lt_of_lt_of_le hlt hb.size, fun j u hj => (hb.cell (p := ⟨b, off + j, none⟩) hlt).trans (hc j u hj)⟩
section
variable {P : Program} {ops : Array Oper} {rest : List Oper} {o : Oper} {a : Act} {Q : Exit → Act → World → Prop}
end
theorem _root_.Go.World.heap_alloc_new (w : World) (o : Obj) : (w.alloc o).heap[w.heap.size]? = some o := by
  show (w.heap.push o)[w.heap.size]? = _
  simp
/-- string(b) of bytes that read as l -/
theorem run_bytes_text {P : Program} {w : World} {v : Value} {l : List UInt8} (h : RowAt w v (Lib.byteCells l)) (src dst e : TypeId) (hs : P.underlying src = some (.slice e)) (he : P.underlying e = some (.int .u8)) (hd : P.underlying dst = some .string) :
    (convert src dst v).run P w = .ok (.string ⟨l.toArray⟩) w := by
  rcases h with ⟨rfl, h0⟩ | ⟨b, off, cap, rfl, _, hc⟩
  · have : l = [] := by
      cases l with
      | nil => rfl
      | cons x r => simp [Lib.byteCells] at h0
    subst this
    exact run_convert_bytes_nil w src e hs he 0 0 dst hd
  · have e1 : (Lib.byteCells l).length = l.length := Lib.byteCells_length l
    rw [e1]
    refine run_convert_bytes_back w src dst e _ cap l hs he hd ?_
    intro j hj
    have := hc j (.int .u8 (l[j].toNat : Int)) (by simp [Lib.byteCells, List.getElem?_eq_getElem hj])
    have hplain : (⟨b, off, none⟩ : Addr).add j = ⟨b, off + j, none⟩ := by unfold Addr.add; split <;> simp_all
    rw [hplain]; exact this
end Go.Proofs.YtcahhnjponeeeaaGreatDoor
namespace Go.Proofs.YtcahhnjponeeeaaGreatDoor
open Go.RowKit
/-! ### what stays a builder, an owned row -/
theorem owns_same {w w' : World} {B : Nat} {e : TypeId} {sz : Nat} {v : Value} {n : Nat} {xs : List Value} (h : w.ownsRow B e sz v n xs) (hs : ∀ (k : Nat) (o : Obj), w.heap[k]? = some o → (∃ c fz, o = .cells c e fz) → w'.heap[k]? = some o) : w'.ownsRow B e sz v n xs := by
  obtain ⟨h1, h2⟩ := h
  refine ⟨h1, ?_⟩
  rcases h2 with h2 | ⟨g, cap, cur, hv, hg, hh, r⟩
  · exact Or.inl h2
  · exact Or.inr ⟨g, cap, cur, hv, hg, hs _ _ hh ⟨_, _, rfl⟩, r⟩
/-- all that lay below, untouched, by 'Below' from the heap's end -/
theorem below_same {w w' : World} (h : Below w.heap.size w w') {k : Nat} {o : Obj} (hk : w.heap[k]? = some o) : w'.heap[k]? = some o :=
  (h.block k (Array.getElem?_eq_some_iff.1 hk).1).trans hk
theorem setCell_same {w : World} {a : Addr} {u : Value} {k : Nat} {o : Obj} (hk : w.heap[k]? = some o) (hne : k ≠ a.block) : (w.setCell a u).heap[k]? = some o :=
  (Below.heap_setCell w a u k hne).trans hk
theorem alloc_same {w : World} {x o : Obj} {k : Nat} (hk : w.heap[k]? = some o) : (w.alloc x).heap[k]? = some o :=
  (Lib.alloc_old w x k (Array.getElem?_eq_some_iff.1 hk).1).trans hk
theorem setCell_one {w : World} {W : Nat} {v u : Value} {T : TypeId} (h : w.heap[W]? = some (.cells #[v] T (0, 0))) : (w.setCell ⟨W, 0, none⟩ u).heap[W]? = some (.cells #[u] T (0, 0)) := by
  simp only [World.setCell, Array.getElem?_modify, if_pos, h]
  simp
end Go.Proofs.YtcahhnjponeeeaaGreatDoor
