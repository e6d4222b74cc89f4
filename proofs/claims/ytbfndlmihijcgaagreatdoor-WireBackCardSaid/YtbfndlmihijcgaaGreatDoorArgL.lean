/- What holds while wire's parser reads a list of parts: the parts so far, in a row of the list's own. No condition beyond those each names. -/
import Derived.Test.YtbfndlmihijcgaaGreatDoorParseD
namespace Go.Proofs.YtbfndlmihijcgaaGreatDoor
open Go.RowKit Go.Shelf Go.Sort

/-- the result's block, the list's block, and the parts read so far -/
structure LstA (P R U : Nat) (S : List UInt8) (w : World) (k m : Nat) (items : List (ArgP × Value)) (wr : World) (v : Value) : Prop where
  pars : ParsW wr P S k m
  res : wr.heap[R]? = some (.cells zero3 37 (0, 0))
  blk : wr.heap[U]? = some (.cells #[.int .i64 3, .string ⟨#[]⟩, v] 37 (0, 0))
  own : wr.ownsRow (U + 1) 37 3 v items.length (cellsA items)
  kept : Kept (fun k => k = P) w wr
  kids : ∀ x ∈ items, ReadsA wr (fun j => U < j ∧ v.ownBlock ≠ some j) x.2 x.1.list
/-- a block that is no parser and no row of parts -/
theorem pars_ne {w : World} {P a n k : Nat} {S : List UInt8} {c : Array Value} {T : TypeId} {fz : Nat × Nat} (h : ParsW w P S a n) (hk : w.heap[k]? = some (.cells c T fz)) (hT : T ≠ 43) : k ≠ P := by
  rintro rfl
  unfold ParsW at h
  rw [hk] at h
  have := congrArg (fun o : Option Obj => match o with | some (.cells _ t _) => t | _ => T) h
  exact hT this
theorem LstA.call {P R U : Nat} {S : List UInt8} {w : World} {k m b m' : Nat} {items : List (ArgP × Value)} {wd w4 : World} {v : Value} (h : LstA P R U S w k m items wd v) (hU : P < U) (hk : Kept (fun k => k = P) wd w4) (hP : ParsW w4 P S b m') : LstA P R U S w b m' items w4 v := by
  refine ⟨hP, hk.obj h.res (pars_ne h.pars h.res (by decide)), hk.obj h.blk (pars_ne h.pars h.blk (by decide)), ?_, h.kept.trans hk, fun x hx => ?_⟩
  · refine owns_same h.own fun j o hj hor => hk.obj hj ?_
    obtain ⟨c, fz, rfl⟩ := hor
    exact pars_ne h.pars hj (by decide)
  · exact readsA_keep (h.kids x hx) hk.size (fun j hj hl => hk.block j hl (fun e => by have : j = P := e; omega)) (fun j hj _ => hj)
theorem LstA.drewN {P R U : Nat} {S : List UInt8} {w : World} {k m : Nat} {items : List (ArgP × Value)} {wr : World} {v : Value} (h : LstA P R U S w k m items wr v) (hU : P < U) (q : Nat) : LstA P R U S w k m items (wr.drewN q) v :=
  h.call hU (kept_drewN (Kept.refl _ _) q) (h.pars.drewN q)
theorem LstA.step {P R U : Nat} {S : List UInt8} {w : World} {k m : Nat} {items : List (ArgP × Value)} {wr : World} {v : Value} (h : LstA P R U S w k m items wr v) (hU : P < U) (b : Nat) : LstA P R U S w b m items (wr.setCell ⟨P, 1, none⟩ (.int .i64 (b : Int))) v :=
  h.call hU ((Kept.refl _ _).setB _) (h.pars.set b)
theorem owner_at {w : World} {B : Nat} {v : Value} {n : Nat} {xs : List Value} (h : w.ownsRow B 37 3 v n xs) {g : Nat} (hg : v.ownBlock = some g) : B ≤ g ∧ g < w.heap.size := ⟨(h.lt g hg).1, (h.lt g hg).2⟩
theorem LstA.push {P R U : Nat} {S : List UInt8} {w : World} {b m : Nat} {items : List (ArgP × Value)} {w4 w6 : World} {v : Value} (h : LstA P R U S w b m items w4 v) (hPR : P < R) (hRU : R < U) (hR : R = w.heap.size) (x : ArgP) (va : Value) (H : Nat) (hH : U < H) (hv : ∀ g, v.ownBlock = some g → g < H) (hva : ReadsA w4 (fun j => H ≤ j) va x.list)
    {g cap : Nat} (hown : w6.ownsRow (U + 1) 37 3 (.slice (some ⟨g, 0, none⟩) (items.length + 1) cap) (items.length + 1) (cellsA items ++ cells3 x va)) (hg : (w4.alloc (.cells (cells3 x va).toArray 37)).grownBy w6 v.ownBlock) (hat : v.ownBlock = some g ∨ g = w4.heap.size + 1) :
    LstA P R U S w b m (items ++ [(x, va)]) (w6.setCell ⟨U, 2, none⟩ (.slice (some ⟨g, 0, none⟩) (items.length + 1) cap)) (.slice (some ⟨g, 0, none⟩) (items.length + 1) cap) := by
  have hPl := h.pars.lt
  have hUl : U < w4.heap.size := (Array.getElem?_eq_some_iff.1 h.blk).1
  have hsz := alloc_size w4 (.cells (cells3 x va).toArray 37)
  have hle := hg.size
  have hlow : ∀ j, v.ownBlock = some j → U < j := fun j e => (h.own.lt j e).1
  have same : ∀ j, j < w4.heap.size → v.ownBlock ≠ some j → w6.heap[j]? = w4.heap[j]? := fun j hj hne =>
    (hg.block j (by omega) (fun e => hne e.symm)).trans (Below.heap_alloc w4 _ j hj)
  have hge : ∀ j, v.ownBlock = some j ∨ j = w4.heap.size + 1 → U < j := fun j hj => by
    rcases hj with e | e
    · exact hlow j e
    · omega
  refine ⟨?_, ?_, ?_, ?_, ?_, ?_⟩
  · have h1 := (same P hPl (fun e => by have := hlow P e; omega)).trans h.pars
    exact setCell_same h1 (show P ≠ U by omega)
  · have h1 := (same R (by omega) (fun e => by have := hlow R e; omega)).trans h.res
    exact setCell_same h1 (show R ≠ U by omega)
  · have h1 := (same U hUl (fun e => by have := hlow U e; omega)).trans h.blk
    exact set3_2 h1
  · have e : (items ++ [(x, va)]).length = items.length + 1 := by simp
    rw [e, ← cellsA_snoc]
    exact ownsRow_setCell_below (a := ⟨U, 2, none⟩) hown (Nat.lt_succ_self _) _
  · have h1 : Below w.heap.size w4 w6 := ((Below.refl w.heap.size w4).alloc h.kept.size _).grown hg (by have := h.kept.size; omega) (fun j e => by have := hlow j e; omega)
    exact (h.kept.next h1).setNew (p := ⟨U, 2, none⟩) (by show w.heap.size ≤ U; omega) _
  · intro y hy
    have key : ∀ (ok : Nat → Prop) (u : Value) (l : List ArgP), ReadsA w4 ok u l → (∀ j, ok j → U < j ∧ v.ownBlock ≠ some j) → ReadsA (w6.setCell ⟨U, 2, none⟩ (.slice (some ⟨g, 0, none⟩) (items.length + 1) cap)) (fun j => U < j ∧ (Value.slice (some ⟨g, 0, none⟩) (items.length + 1) cap).ownBlock ≠ some j) u l := fun ok u l hr hok => by
      refine readsA_keep hr (by rw [set_size]; omega) (fun j hj hl => ?_) (fun j hj hl => ⟨(hok j hj).1, fun e => ?_⟩)
      · rw [Below.heap_setCell _ _ _ _ (show j ≠ U by have := (hok j hj).1; omega)]
        exact same j hl (hok j hj).2
      · have e2 : g = j := Option.some.inj e
        subst e2
        rcases hat with h' | h'
        · exact (hok g hj).2 h'
        · omega
    rcases List.mem_append.1 hy with h' | h'
    · exact key _ _ _ (h.kids y h') (fun j hj => hj)
    · rw [List.mem_singleton] at h'
      subst h'
      exact key _ _ _ hva (fun j hj => ⟨by omega, fun e => by have := hv j e; omega⟩)
/-- the list is laid as the result -/
theorem LstA.done {P R U : Nat} {S : List UInt8} {w : World} {k m : Nat} {items : List (ArgP × Value)} {wr : World} {v : Value} (h : LstA P R U S w k m items wr v) (hPR : P < R) (hRU : R < U) (hR : R = w.heap.size) :
    ArgR P S w (.ok (.mk 3 [] (items.map (·.1)), k, m)) (.returned (.agg #[.int .i64 3, .string ⟨#[]⟩, v])) (((wr.setCell ⟨R, 0, none⟩ (.int .i64 3)).setCell ⟨R, 1, none⟩ (.string ⟨#[]⟩)).setCell ⟨R, 2, none⟩ v) := by
  refine ⟨v, rfl, ?_, h.pars.at (three_heap _ _ _ _ _ _ (show P ≠ R by omega)), ?_⟩
  · have hrd := readsA_of_owns (ok := fun j => U < j) h.own (fun g e => (h.own.lt g e).1) (fun x hx => readsA_keep (h.kids x hx) (Nat.le_refl _) (fun _ _ _ => rfl) (fun j hj _ => hj.1))
    exact readsA_keep hrd (by rw [three_size]; exact Nat.le_refl _) (fun j hj _ => three_heap _ _ _ _ _ _ (show j ≠ R by omega)) (fun j hj _ => by show w.heap.size ≤ j; omega)
  · subst hR
    exact ((h.kept.setNew (p := ⟨w.heap.size, 0, none⟩) (Nat.le_refl _) _).setNew (p := ⟨w.heap.size, 1, none⟩) (Nat.le_refl _) _).setNew (p := ⟨w.heap.size, 2, none⟩) (Nat.le_refl _) _
end Go.Proofs.YtbfndlmihijcgaaGreatDoor
