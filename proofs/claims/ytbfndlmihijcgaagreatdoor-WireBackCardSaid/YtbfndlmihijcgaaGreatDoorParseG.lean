/- What holds while Parse reads a command's parts. No condition beyond those each names. -/
import Derived.Test.YtbfndlmihijcgaaGreatDoorParseF
import Derived.Test.YtbfndlmihijcgaaGreatDoorHeldT
namespace Go.Proofs.YtbfndlmihijcgaaGreatDoor
open Go.RowKit Go.Shelf Go.Sort

/-- the command's block, the error's, the parser, and the parts read so far -/
structure LstP (C P : Nat) (S : List UInt8) (w : World) (k m : Nat) (tag nm : List UInt8) (items : List (ArgP × Value)) (wr : World) (v : Value) : Prop where
  pars : ParsW wr P S k m
  blk : wr.heap[C]? = some (.cells #[.string ⟨tag.toArray⟩, .string ⟨nm.toArray⟩, v] 25 (0, 0))
  err : wr.heap[C + 1]? = some (.cells #[.nilIface] 27 (0, 0))
  own : wr.ownsRow (P + 1) 37 3 v items.length (cellsA items)
  low : Below w.heap.size w wr
  kids : ∀ x ∈ items, ReadsA wr (fun j => P < j ∧ v.ownBlock ≠ some j) x.2 x.1.list
theorem LstP.call {C P : Nat} {S : List UInt8} {w : World} {k m b m' : Nat} {tag nm : List UInt8} {items : List (ArgP × Value)} {wd w4 : World} {v : Value} (h : LstP C P S w k m tag nm items wd v) (hP : w.heap.size ≤ P) (hk : Kept (fun k => k = P) wd w4) (hp : ParsW w4 P S b m') : LstP C P S w b m' tag nm items w4 v := by
  refine ⟨hp, hk.obj h.blk (pars_ne h.pars h.blk (by decide)), hk.obj h.err (pars_ne h.pars h.err (by decide)), ?_, h.low.trans (hk.below h.low.size (fun k e => by have : k = P := e; omega)), fun x hx => ?_⟩
  · refine owns_same h.own fun j o hj hor => hk.obj hj ?_
    obtain ⟨c, fz, rfl⟩ := hor
    exact pars_ne h.pars hj (by decide)
  · exact readsA_keep (h.kids x hx) hk.size (fun j hj hl => hk.block j hl (fun e => by have : j = P := e; omega)) (fun j hj _ => hj)
theorem LstP.below {C P : Nat} {S : List UInt8} {w : World} {k m : Nat} {tag nm : List UInt8} {items : List (ArgP × Value)} {wd w4 : World} {v : Value} (h : LstP C P S w k m tag nm items wd v) (hP : w.heap.size ≤ P) (hb : Below wd.heap.size wd w4) : LstP C P S w k m tag nm items w4 v :=
  h.call hP (kept_below hb) (h.pars.below hb)
theorem set_last (xs : List Value) (a b c x y z : Value) : (((xs ++ [a, b, c]).set (xs.length) x).set (xs.length + 1) y).set (xs.length + 2) z = xs ++ [x, y, z] := by
  induction xs with
  | nil => rfl
  | cons h t ih =>
    simp only [List.cons_append, List.length_cons]
    show h :: _ = h :: _
    congr 1
theorem LstP.push {C P : Nat} {S : List UInt8} {w : World} {b m : Nat} {tag nm : List UInt8} {items : List (ArgP × Value)} {w5 w6 : World} {v : Value} (h : LstP C P S w b m tag nm items w5 v) (hC : C = w.heap.size) (hCP : C + 1 < P) (x : ArgP) (va : Value) (H : Nat) (hH : P < H) (hv : ∀ g, v.ownBlock = some g → g < H) (hva : ReadsA w5 (fun j => H ≤ j) va x.list)
    {g cap : Nat} (hown : w6.ownsRow (P + 1) 37 3 (.slice (some ⟨g, 0, none⟩) (items.length + 1) cap) (items.length + 1) (cellsA items ++ [.int .i64 0, .string ⟨#[]⟩, .slice none 0 0])) (hg : w5.grownBy w6 v.ownBlock) (hat : v.ownBlock = some g ∨ g = w5.heap.size) :
    LstP C P S w b m tag nm (items ++ [(x, va)]) ((((w6.setCell ⟨g, items.length * 3, none⟩ (.int .i64 (x.kind : Int))).setCell ⟨g, items.length * 3 + 1, none⟩ (.string ⟨x.text.toArray⟩)).setCell ⟨g, items.length * 3 + 2, none⟩ va).setCell ⟨C, 2, none⟩ (.slice (some ⟨g, 0, none⟩) (items.length + 1) cap)) (.slice (some ⟨g, 0, none⟩) (items.length + 1) cap) := by
  have hPl := h.pars.lt
  have hCl : C < w5.heap.size := (Array.getElem?_eq_some_iff.1 h.blk).1
  have hEl : C + 1 < w5.heap.size := (Array.getElem?_eq_some_iff.1 h.err).1
  have hle := hg.size
  have hlow : ∀ j, v.ownBlock = some j → P < j := fun j e => (h.own.lt j e).1
  have hgP : P < g := by
    rcases hat with e | e
    · exact hlow g e
    · omega
  have same6 : ∀ j, j < w5.heap.size → v.ownBlock ≠ some j → w6.heap[j]? = w5.heap[j]? := fun j hj hne => hg.block j hj (fun e => hne e.symm)
  obtain ⟨w9, hw9⟩ : ∃ w9, ((w6.setCell ⟨g, items.length * 3, none⟩ (.int .i64 (x.kind : Int))).setCell ⟨g, items.length * 3 + 1, none⟩ (.string ⟨x.text.toArray⟩)).setCell ⟨g, items.length * 3 + 2, none⟩ va = w9 := ⟨_, rfl⟩
  have hs9 : w9.heap.size = w6.heap.size := by rw [← hw9, set_size, set_size, set_size]
  have same : ∀ j, j < w5.heap.size → v.ownBlock ≠ some j → j ≠ g → w9.heap[j]? = w5.heap[j]? := fun j hj hne hjg => by
    rw [← hw9, Below.heap_setCell _ _ _ _ hjg, Below.heap_setCell _ _ _ _ hjg, Below.heap_setCell _ _ _ _ hjg]
    exact same6 j hj hne
  have own9 : w9.ownsRow (P + 1) 37 3 (.slice (some ⟨g, 0, none⟩) (items.length + 1) cap) (items.length + 1) (cellsA items ++ cells3 x va) := by
    have h1 := own_set (i := items.length * 3 + 2) (own_set (i := items.length * 3 + 1) (own_set (i := items.length * 3) hown (.int .i64 (x.kind : Int))) (.string ⟨x.text.toArray⟩)) va
    rw [hw9, ← cellsA_len items, set_last] at h1
    exact h1
  rw [hw9]
  have e : (items ++ [(x, va)]).length = items.length + 1 := by simp
  refine ⟨?_, ?_, ?_, ?_, ?_, ?_⟩
  · exact setCell_same ((same P hPl (fun e => by have := hlow P e; omega) (by omega)).trans h.pars) (show P ≠ C by omega)
  · exact set3_2 ((same C hCl (fun e => by have := hlow C e; omega) (by omega)).trans h.blk)
  · exact setCell_same ((same (C + 1) hEl (fun e => by have := hlow (C + 1) e; omega) (by omega)).trans h.err) (show C + 1 ≠ C by omega)
  · rw [e, ← cellsA_snoc]
    exact ownsRow_setCell_below (a := ⟨C, 2, none⟩) own9 (show C < P + 1 by omega) _
  · have h1 : Below w.heap.size w5 w6 := (Below.refl w.heap.size w5).grown hg h.low.size (fun j e => by have := hlow j e; omega)
    have h2 : Below w.heap.size w w9 := by
      rw [← hw9]
      exact (((h.low.trans h1).setCell (p := ⟨g, items.length * 3, none⟩) (show w.heap.size ≤ g by omega) _).setCell (p := ⟨g, items.length * 3 + 1, none⟩) (show w.heap.size ≤ g by omega) _).setCell (p := ⟨g, items.length * 3 + 2, none⟩) (show w.heap.size ≤ g by omega) _
    exact h2.setCell (p := ⟨C, 2, none⟩) (show w.heap.size ≤ C by omega) _
  · intro y hy
    have key : ∀ (ok : Nat → Prop) (u : Value) (l : List ArgP), ReadsA w5 ok u l → (∀ j, ok j → P < j ∧ v.ownBlock ≠ some j) → ReadsA (w9.setCell ⟨C, 2, none⟩ (.slice (some ⟨g, 0, none⟩) (items.length + 1) cap)) (fun j => P < j ∧ (Value.slice (some ⟨g, 0, none⟩) (items.length + 1) cap).ownBlock ≠ some j) u l := fun ok u l hr hok => by
      have hng : ∀ j, ok j → j < w5.heap.size → j ≠ g := fun j hj hl e => by
        subst e
        rcases hat with h' | h'
        · exact (hok j hj).2 h'
        · omega
      refine readsA_keep hr (by rw [set_size]; omega) (fun j hj hl => ?_) (fun j hj hl => ⟨(hok j hj).1, fun e => hng j hj hl (Option.some.inj e).symm⟩)
      rw [Below.heap_setCell _ _ _ _ (show j ≠ C by have := (hok j hj).1; omega)]
      exact same j hl (hok j hj).2 (hng j hj hl)
    rcases List.mem_append.1 hy with h' | h'
    · exact key _ _ _ (h.kids y h') (fun j hj => hj)
    · rw [List.mem_singleton] at h'
      subst h'
      exact key _ _ _ hva (fun j hj => ⟨by omega, fun e => by have := hv j e; omega⟩)
/-- what Parse brings: a command, or an error and its place -/
def CmdR (S : List UInt8) (w : World) (e : Ending) (w' : World) : Prop := match parseF S with
  | .error (E, p) => ∃ b, e = .returned (.tuple #[.agg #[.string ⟨#[]⟩, .string ⟨#[]⟩, .slice none 0 0], .iface 54 (.pointer (some ⟨b, 0, none⟩))]) ∧ w'.heap[b]? = some (.cells #[.int .i64 (E : Int), .int .i64 (p : Int)] 56 (0, 0)) ∧ Below w.heap.size w w'
  | .ok (tag, nm, l) => ∃ v, e = .returned (.tuple #[.agg #[.string ⟨tag.toArray⟩, .string ⟨nm.toArray⟩, v], .nilIface]) ∧ ReadsA w' (fun j => w.heap.size ≤ j) v l ∧ Below w.heap.size w w'
end Go.Proofs.YtbfndlmihijcgaaGreatDoor
