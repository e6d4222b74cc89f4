/- An append of one element of two cells to a row that is owned. No program here; no condition beyond those each names. What holds while seq.Parse reads a set. No condition beyond those each names. The walks over seq.Right and seq.Has: each returns what its plain function says. No condition beyond those each names. -/
import Derived.Lib.IndexMore
import Derived.Laws.EntriesVeiled
import Derived.Test.YtcahhnjponeeeaaGreatDoorPkKit2
import Derived.Test.YtcahhnjponeeeaaGreatDoorPkSplitB
namespace Go.Proofs.YtcahhnjponeeeaaGreatDoor
open Go.RowKit
section
variable {P : Program} {ops : Array Oper} {rest : List Oper} {o : Oper} {a : Act} {Q : Exit → Act → World → Prop}
/-- append(v, x), v owned, x of two cells in a new block -/
theorem wpList_app2 (hgd : o.guard = none) (s x : Operand) (t : TypeId) (ho : o.op = .call { callee := .builtin .append, args := #[s, x], argTypes := #[t, t] })
    (e : TypeId) {z : Value} {bytes : Nat} (ht : P.underlying t = some (.slice e)) (hinfo : (P.info? e).map (fun i => (i.zero, i.size, i.bytes)) = some (some z, 2, bytes)) (hzs : z.cells.size = 2)
    (base : Nat) (v : Value) (n : Nat) (xs : List Value) (w : World) (hs : a.eval s = v) (hown : w.ownsRow base e 2 v n xs)
    (y y2 : Value) (hx : a.eval x = .slice (some ⟨w.heap.size, 0, none⟩) 1 1) (h1 : y.oneCell' = true) (h2 : y2.oneCell' = true)
    (hn : n + 1 ≤ 4294967296) (hb : bytes ≤ 64) (hbase : base ≤ w.heap.size)
    (h : ∀ v' w', w'.ownsRow base e 2 v' (n + 1) (xs ++ [y, y2]) → (w.alloc (.cells #[y, y2] e)).grownBy w' v.ownBlock → v' ≠ .slice none 0 0 → wpList P ops Q rest (a.put o.dst v') w') : wpList P ops Q (o :: rest) a (w.alloc (.cells #[y, y2] e)) := by
  obtain ⟨i0, hi, hz0, hz1, hz2⟩ := info_parts hinfo
  refine wpList_append_own _ hgd s x t ho base e i0 z 2 bytes ht hi hz0 hz1 hz2 hzs (by decide) v n xs hs (hown.alloc _) ⟨w.heap.size, 0, none⟩ 1 1 [y, y2] hx rfl ?_ ?_ ?_ ?_ ?_ ?_
  · intro j u hj
    match j, hj with
    | 0, hj => simp at hj; subst hj; simp [Addr.add]
    | 1, hj => simp at hj; subst hj; simp [Addr.add]
  · intro u hu; simp at hu; rcases hu with rfl | rfl
    · exact h1
    · exact h2
  · unfold maxLen; omega
  · have : (n + 1) * bytes ≤ 4294967296 * 64 := Nat.mul_le_mul hn hb
    omega
  · simp; omega
  · intro v' w' k1 k2 k3
    refine h v' w' k1 k2 ?_
    intro hv
    have := (k3.1 hv).2
    omega
end
theorem below_app2 {B : Nat} {a w w' : World} {e : TypeId} {sz n : Nat} {xs : List Value} {v : Value} {o : Obj} (h : Below B a w) (hB : B ≤ w.heap.size) (hown : w.ownsRow B e sz v n xs) (hg : (w.alloc o).grownBy w' v.ownBlock) : Below B a w' :=
  (h.alloc hB _).grown hg (by simp; omega) (fun k hk => (hown.lt k hk).1)
theorem owns_below {w w' : World} {B : Nat} {e : TypeId} {sz : Nat} {v : Value} {n : Nat} {xs : List Value} (h : w.ownsRow B e sz v n xs) (hb : Below w.heap.size w w') : w'.ownsRow B e sz v n xs :=
  owns_same h (fun _ _ hk _ => below_same hb hk)
end Go.Proofs.YtcahhnjponeeeaaGreatDoor
namespace Go.Proofs.YtcahhnjponeeeaaGreatDoor
open Go.RowKit Go.Shelf Go.Sort
set_option linter.unusedSimpArgs false
section
variable {F : Fence} {m : Nat} {P : Program} {ops : Array Oper} {rest : List Oper} {o : Oper} {a : Act} {Q : Exit → Act → World → Prop}
theorem wpListIn_app2 (hgd : o.guard = none) (s x : Operand) (t : TypeId) (ho : o.op = .call { callee := .builtin .append, args := #[s, x], argTypes := #[t, t] })
    (e : TypeId) {z : Value} {bytes : Nat} (ht : P.underlying t = some (.slice e)) (hinfo : (P.info? e).map (fun i => (i.zero, i.size, i.bytes)) = some (some z, 2, bytes)) (hzs : z.cells.size = 2)
    (base : Nat) (v : Value) (n : Nat) (xs : List Value) (w : World) (hs : a.eval s = v) (hown : w.ownsRow base e 2 v n xs)
    (y y2 : Value) (hx : a.eval x = .slice (some ⟨w.heap.size, 0, none⟩) 1 1) (h1 : y.oneCell' = true) (h2 : y2.oneCell' = true)
    (hn : n + 1 ≤ 4294967296) (hb : bytes ≤ 64) (hbase : base ≤ w.heap.size)
    (h : ∀ v' w', w'.ownsRow base e 2 v' (n + 1) (xs ++ [y, y2]) → (w.alloc (.cells #[y, y2] e)).grownBy w' v.ownBlock → v' ≠ .slice none 0 0 → wpListIn F m P ops Q rest (a.put o.dst v') w') : wpListIn F m P ops Q (o :: rest) a (w.alloc (.cells #[y, y2] e)) := by
  obtain ⟨i0, hi, hz0, hz1, hz2⟩ := info_parts hinfo
  refine wpListIn_append_own _ hgd s x t ho base e i0 z 2 bytes ht hi hz0 hz1 hz2 hzs (by decide) v n xs hs (hown.alloc _) ⟨w.heap.size, 0, none⟩ 1 1 [y, y2] hx rfl ?_ ?_ ?_ ?_ ?_ ?_
  · intro j u hj
    match j, hj with
    | 0, hj => simp at hj; subst hj; simp [Addr.add]
    | 1, hj => simp at hj; subst hj; simp [Addr.add]
  · intro u hu; simp at hu; rcases hu with rfl | rfl
    · exact h1
    · exact h2
  · unfold maxLen; omega
  · have : (n + 1) * bytes ≤ 4294967296 * 64 := Nat.mul_le_mul hn hb
    omega
  · simp; omega
  · intro v' w' k1 k2 k3
    refine h v' w' k1 k2 ?_
    intro hv
    have := (k3.1 hv).2
    omega
end
theorem rng_info : (Tryz.prog.info? 100).map (fun i => (i.zero, i.size, i.bytes)) = some (some (.agg #[.int .i64 0, .int .i64 0]), 2, 16) := by kernel_rfl
/-- ranges in one row -/
def rgCells (l : List Rg) : List Value := l.flatMap fun r => [Value.int .i64 r.1, Value.int .i64 r.2]
theorem rgCells_snoc (l : List Rg) (r : Rg) : rgCells l ++ [Value.int .i64 r.1, Value.int .i64 r.2] = rgCells (l ++ [r]) := by simp [rgCells]
theorem keeps_below {W W' : World} (h : Below W.heap.size W W') : KeepsOthers W W' := ⟨h.size, fun k o hk _ => below_same h hk⟩
/- reading a part of a set -/
theorem sets_snoc : ∀ (pre r : List Txt) (acc acc' : List Rg), setsF pre acc = .ok acc' → setsF (pre ++ r) acc = setsF r acc'
  | [], r, acc, acc', h => by rw [setsF] at h; cases h; rfl
  | t :: pre, r, acc, acc', h => by
    rw [setsF] at h
    rw [List.cons_append, setsF]
    cases hp : pairF t with
    | none => rw [hp] at h; cases h
    | some p =>
      rw [hp] at h
      dsimp only at h ⊢
      split at h
      · cases h
      · rename_i hne
        rw [if_neg hne]
        exact sets_snoc pre r _ _ h
theorem sets_bad : ∀ (pre r : List Txt) (acc : List Rg) (n : Nat), setsF pre acc = .error n → setsF (pre ++ r) acc = .error n
  | [], r, acc, n, h => by rw [setsF] at h; cases h
  | t :: pre, r, acc, n, h => by
    rw [setsF] at h
    rw [List.cons_append, setsF]
    cases hp : pairF t with
    | none => rw [hp] at h; exact h
    | some p =>
      rw [hp] at h
      dsimp only at h ⊢
      split at h
      · rename_i he; rw [if_pos he]; exact h
      · rename_i hne
        rw [if_neg hne]
        exact sets_bad pre r _ _ h
/-- the two texts of a part -/
def twoF (t : Txt) : Txt × Txt := if Lib.index t [58] < 0 then (t, t) else (t.take (Lib.index t [58]).toNat, t.drop ((Lib.index t [58]).toNat + 1))
theorem pair_two (t : Txt) : pairF t = match numS (twoF t).1, numS (twoF t).2 with
    | some x, some y => some (x, y)
    | _, _ => none := by
  unfold pairF twoF
  split
  · dsimp only; cases numS t <;> rfl
  · rfl
theorem cut_one {t : Txt} (h : Lib.index t [58] < 0) : Lib.cut t [58] = (t, [], false) := by unfold Lib.cut; rw [if_neg (by omega)]
theorem cut_two {t : Txt} (h : ¬ Lib.index t [58] < 0) : Lib.cut t [58] = ((twoF t).1, (twoF t).2, true) := by
  unfold Lib.cut twoF; rw [if_pos (by omega), if_neg h]; rfl
theorem two_one {t : Txt} (h : Lib.index t [58] < 0) : twoF t = (t, t) := by unfold twoF; rw [if_pos h]
theorem two_len (t : Txt) : (twoF t).1.length ≤ t.length ∧ (twoF t).2.length ≤ t.length := by
  unfold twoF
  split
  · exact ⟨Nat.le_refl _, Nat.le_refl _⟩
  · simp only [List.length_take, List.length_drop]; omega
/-- what holds between two rounds -/
structure ParI (N : Nat) (w0 : World) (acc : List Rg) (ov : Value) (W : World) : Prop where
  r1 : W.heap[N]? = some (.cells #[.slice none 0 0] 29 (0, 0))
  r2 : W.heap[N + 1]? = some (.cells #[.nilIface] 37 (0, 0))
  out : W.heap[N + 2]? = some (.cells #[ov] 29 (0, 0))
  own : W.ownsRow N 100 2 ov acc.length (rgCells acc)
  low : Below N w0 W
  b0 : ∃ c, W.heap[N + 3]? = some (.cells c 9 (0, 0))
  b1 : ∃ c, W.heap[N + 4]? = some (.cells c 9 (0, 0))
  b2 : ∃ c, W.heap[N + 5]? = some (.cells c 3 (0, 0))
  len : acc.length ≤ 20
  siz : N + 6 ≤ W.heap.size
theorem ParI.below {N : Nat} {w0 W W' : World} {acc : List Rg} {ov : Value} (h : ParI N w0 acc ov W) (hb : Below W.heap.size W W') : ParI N w0 acc ov W' := by
  obtain ⟨c0, h0⟩ := h.b0
  obtain ⟨c1, h1⟩ := h.b1
  obtain ⟨c2, h2⟩ := h.b2
  exact ⟨below_same hb h.r1, below_same hb h.r2, below_same hb h.out, owns_below h.own hb, h.low.trans (hb.mono (by have := h.siz; omega)), ⟨c0, below_same hb h0⟩, ⟨c1, below_same hb h1⟩, ⟨c2, below_same hb h2⟩, h.len, Nat.le_trans h.siz hb.size⟩
theorem ParI.lay {N : Nat} {w0 W : World} {acc : List Rg} {ov : Value} (h : ParI N w0 acc ov W) (o : Obj) : ParI N w0 acc ov (W.alloc o) := h.below ((Below.refl _ W).alloc (Nat.le_refl _) o)
theorem ParI.put {N : Nat} {w0 W : World} {acc : List Rg} {ov : Value} (h : ParI N w0 acc ov W) {l : Nat} {o : Obj} (o' : Obj) (hN : N + 6 ≤ l) (hl : W.heap[l]? = some o) (ho : o.isCells = false) : ParI N w0 acc ov (W.putObj l o') := by
  obtain ⟨c0, h0⟩ := h.b0
  obtain ⟨c1, h1⟩ := h.b1
  obtain ⟨c2, h2⟩ := h.b2
  refine ⟨(World.putObj_heap_other (by omega)).trans h.r1, (World.putObj_heap_other (by omega)).trans h.r2, (World.putObj_heap_other (by omega)).trans h.out, ownsRow_putObj h.own o' hl ho, ?_, ⟨c0, (World.putObj_heap_other (by omega)).trans h0⟩, ⟨c1, (World.putObj_heap_other (by omega)).trans h1⟩, ⟨c2, (World.putObj_heap_other (by omega)).trans h2⟩, h.len, by rw [World.putObj_size]; exact h.siz⟩
  exact h.low.grown (grownBy_putObj' W l o') (by have := h.siz; omega) (fun k e => by cases e; omega)
/-- a block of another sort is not the row's -/
theorem row_not {W : World} {N b n : Nat} {ov : Value} {xs c : List Value} {t : TypeId} (ho : W.ownsRow N 100 2 ov n xs) {cs : Array Value} (hb : W.heap[b]? = some (.cells cs t (0, 0))) (ht : t ≠ 100) : some b ≠ ov.ownBlock := by
  intro e
  rcases ho.2 with ⟨rfl, _⟩ | ⟨g, cap, cur, rfl, _, hg, _⟩
  · simp [Value.ownBlock] at e
  · obtain rfl : b = g := by simpa [Value.ownBlock] using e
    rw [hb] at hg
    have := congrArg (fun o : Option Obj => match o with | some (.cells _ u _) => u | _ => 0) hg
    exact ht this
theorem ParI.set {N : Nat} {w0 W : World} {acc : List Rg} {ov : Value} (h : ParI N w0 acc ov W) (v : Value) : ParI N w0 acc ov (W.setCell ⟨N + 3, 0, none⟩ v) := by
  obtain ⟨c0, h0⟩ := h.b0
  obtain ⟨c1, h1⟩ := h.b1
  obtain ⟨c2, h2⟩ := h.b2
  have hne := row_not (c := []) h.own h0 (by decide)
  refine ⟨setCell_same h.r1 (by simp), setCell_same h.r2 (by simp), setCell_same h.out (by simp), h.own.kept (grownBy_setCell' W (N + 3) v) (.inr hne.symm), h.low.setCell (p := ⟨N + 3, 0, none⟩) (by simp) v, ?_, ⟨c1, setCell_same h1 (by simp)⟩, ⟨c2, setCell_same h2 (by simp)⟩, h.len, by rw [set_size]; exact h.siz⟩
  simp only [World.setCell, Array.getElem?_modify, if_pos, h0]
  exact ⟨_, rfl⟩
/-- a range more -/
theorem ParI.push {N : Nat} {w0 W w2 : World} {acc : List Rg} {ov v' : Value} (h : ParI N w0 acc ov W) (r : Rg) (hl : acc.length < 20)
    (ho : w2.ownsRow N 100 2 v' (acc.length + 1) (rgCells acc ++ [.int .i64 r.1, .int .i64 r.2])) (hg : (W.alloc (.cells #[.int .i64 r.1, .int .i64 r.2] 100)).grownBy w2 ov.ownBlock) :
    ParI N w0 (acc ++ [r]) v' (w2.setCell ⟨N + 2, 0, none⟩ v') ∧ KeepsOthers W (w2.setCell ⟨N + 2, 0, none⟩ v') ∧ (∀ k, k < N ∨ N + 3 ≤ k ∧ k ≤ N + 5 → (w2.setCell ⟨N + 2, 0, none⟩ v').heap[k]? = W.heap[k]?) ∧ w2.heap[N + 2]? = some (.cells #[ov] 29 (0, 0)) := by
  obtain ⟨c0, h0⟩ := h.b0
  obtain ⟨c1, h1⟩ := h.b1
  obtain ⟨c2, h2⟩ := h.b2
  have hz := h.siz
  have same : ∀ (k : Nat) (cs : Array Value) (t : TypeId), W.heap[k]? = some (.cells cs t (0, 0)) → t ≠ 100 → w2.heap[k]? = some (.cells cs t (0, 0)) := fun k cs t hk ht =>
    (hg.block k (by have := (Array.getElem?_eq_some_iff.1 hk).1; simp; omega) (row_not (c := []) h.own hk ht)).trans (alloc_same hk)
  have hB : Below N w0 (w2.setCell ⟨N + 2, 0, none⟩ v') := (below_app2 h.low (by omega) h.own hg).setCell (p := ⟨N + 2, 0, none⟩) (by simp) v'
  have ho2 := same _ _ _ h.out (by decide)
  have hown : (w2.setCell ⟨N + 2, 0, none⟩ v').ownsRow N 100 2 v' (acc ++ [r]).length (rgCells (acc ++ [r])) := by
    rw [← rgCells_snoc, List.length_append]
    exact ho.kept (grownBy_setCell' w2 (N + 2) v') (.inr (row_not (c := []) ho ho2 (by decide)).symm)
  have hs2 : W.heap.size + 1 ≤ w2.heap.size := by have := hg.size; simpa using this
  refine ⟨⟨setCell_same (same _ _ _ h.r1 (by decide)) (by simp), setCell_same (same _ _ _ h.r2 (by decide)) (by simp), set1 ho2, hown, hB, ⟨c0, setCell_same (same _ _ _ h0 (by decide)) (by simp)⟩, ⟨c1, setCell_same (same _ _ _ h1 (by decide)) (by simp)⟩, ⟨c2, setCell_same (same _ _ _ h2 (by decide)) (by simp)⟩, by rw [List.length_append]; simp; omega, by rw [set_size]; omega⟩, ?_, ?_, ho2⟩
  · refine ((KeepsOthers.alloc W _).trans (KeepsOthers.of_grownBy hg fun j o ej hj => ?_)).trans (KeepsOthers.setCell _ _ _)
    rcases (h.own.alloc (.cells #[.int .i64 r.1, .int .i64 r.2] 100)).2 with ⟨rfl, _⟩ | ⟨g, cap, cur, rfl, _, hgb, _⟩
    · simp [Value.ownBlock] at ej
    · obtain rfl : g = j := by simpa [Value.ownBlock] using ej
      rw [hgb] at hj; cases hj; rfl
  · rintro k hk
    rw [Below.heap_setCell _ _ _ _ (show k ≠ N + 2 by omega)]
    rcases hk with hk | ⟨hk1, hk2⟩
    · have hlow := fun j e => (h.own.lt j e).1
      rw [hg.block k (by simp; omega) (fun e => by have := hlow k e.symm; omega), Below.heap_alloc _ _ _ (by omega)]
    · rcases (show k = N + 3 ∨ k = N + 4 ∨ k = N + 5 by omega) with rfl | rfl | rfl
      · rw [h0]; exact same _ _ _ h0 (by decide)
      · rw [h1]; exact same _ _ _ h1 (by decide)
      · rw [h2]; exact same _ _ _ h2 (by decide)
end Go.Proofs.YtcahhnjponeeeaaGreatDoor
namespace Go.Proofs.YtcahhnjponeeeaaGreatDoor
open Go.RowKit Go.Shelf Go.Sort
set_option linter.unusedSimpArgs false
/-- a slice of ranges -/
def RgRow (W : World) (v : Value) (l : List Rg) : Prop := ∃ ao cap, v = .slice ao l.length cap ∧ l.length ≤ cap ∧ (cap ≤ 9223372036854775807 ∧ (ao = none → cap = 0)) ∧ ∀ (j : Nat) (r : Rg), l[j]? = some r → ∃ b off, ao = some ⟨b, off, none⟩ ∧ b < W.heap.size ∧ W.cell? ⟨b, off + j * 2, none⟩ = some (.int .i64 r.1) ∧ W.cell? ⟨b, off + j * 2 + 1, none⟩ = some (.int .i64 r.2)
theorem RgRow.below {W W' : World} {v : Value} {l : List Rg} (h : RgRow W v l) (hb : Below W.heap.size W W') : RgRow W' v l := by
  obtain ⟨ao, cap, h1, h2, h3, h4⟩ := h
  refine ⟨ao, cap, h1, h2, h3, fun j r hj => ?_⟩
  obtain ⟨b, off, e1, e2, e3, e4⟩ := h4 j r hj
  exact ⟨b, off, e1, Nat.lt_of_lt_of_le e2 hb.size, (hb.cell (p := ⟨b, off + j * 2, none⟩) e2).trans e3, (hb.cell (p := ⟨b, off + j * 2 + 1, none⟩) e2).trans e4⟩
theorem RgRow.drewN {W : World} {v : Value} {l : List Rg} (h : RgRow W v l) (q : Nat) : RgRow (W.drewN q) v l := h
theorem RgRow.nil (W : World) : RgRow W (.slice none 0 0) [] := ⟨none, 0, rfl, Nat.le_refl _, ⟨by decide, fun _ => rfl⟩, fun j t h => by simp at h⟩
theorem rgCells_at : ∀ (l : List Rg) (j : Nat) (r : Rg), l[j]? = some r → (rgCells l)[j * 2]? = some (.int .i64 r.1) ∧ (rgCells l)[j * 2 + 1]? = some (.int .i64 r.2)
  | [], j, r, h => by simp at h
  | x :: l, 0, r, h => by simp at h; subst h; exact ⟨rfl, rfl⟩
  | x :: l, j + 1, r, h => by
    have ih := rgCells_at l j r (by simpa using h)
    have e : rgCells (x :: l) = Value.int .i64 x.1 :: Value.int .i64 x.2 :: rgCells l := rfl
    rw [e, show (j + 1) * 2 = j * 2 + 1 + 1 by omega]
    exact ih
theorem rg_of_owns {w : World} {B : Nat} {v : Value} {l : List Rg} (h : w.ownsRow B 100 2 v l.length (rgCells l)) : RgRow w v l := by
  have h0 := h
  rcases h.2 with ⟨rfl, h1⟩ | ⟨g, cap, cur, rfl, a1, a2, a3, a4, _⟩
  · exact ⟨none, 0, by rw [h1], by omega, ⟨by decide, fun _ => rfl⟩, fun j t hj => by rw [List.length_eq_zero_iff.1 h1] at hj; simp at hj⟩
  · refine ⟨some ⟨g, 0, none⟩, cap, rfl, a3, ⟨by unfold maxLen at a4; omega, fun e => by cases e⟩, fun j r hj => ?_⟩
    obtain ⟨c1, c2⟩ := rgCells_at l j r hj
    have hl := (List.getElem?_eq_some_iff.1 hj).1
    have k1 := h0.cellAt (j * 2) (by omega)
    have k2 := h0.cellAt (j * 2 + 1) (by omega)
    rw [c1] at k1
    rw [c2] at k2
    exact ⟨g, 0, rfl, (Array.getElem?_eq_some_iff.1 a2).1, by rw [Nat.zero_add]; exact k1, by rw [Nat.zero_add]; exact k2⟩
set_option maxRecDepth 100000 in
set_option maxHeartbeats 2000000 in
theorem in1_any (r : Rg) (n g : Int) (B C : Nat) (w : World) (hB : w.cell? ⟨B, 0, none⟩ = some (.int .i64 n)) (hC : w.cell? ⟨C, 0, none⟩ = some (.int .i64 g)) :
    Calls Tryz.prog 58 #[.agg #[.int .i64 r.1, .int .i64 r.2], .pointer (some ⟨C, 0, none⟩), .pointer (some ⟨B, 0, none⟩)] w fun e w' => e = .returned (.bool (inR n g r)) ∧ Below w.heap.size w w' := by
  obtain ⟨a, b⟩ := r
  have y0 := (Below.refl w.heap.size w).alloc (Nat.le_refl _) (.cells #[.int .i64 a, .int .i64 b] 100)
  have hBl := World.block_lt_of_cell? _ _ hB
  have hCl := World.block_lt_of_cell? _ _ hC
  have hz := alloc_size w (.cells #[.int .i64 a, .int .i64 b] 100)
  dsimp only
  unfold inR
  dsimp only
  by_cases ha : a = 0
  · by_cases hb : b = 0
    · rw [if_pos ha, if_pos hb]
      obtain ⟨mn, hmn⟩ : ∃ m, min g g = m := ⟨_, rfl⟩
      obtain ⟨mx, hmx⟩ : ∃ m, max g g = m := ⟨_, rfl⟩
      rw [hmn, hmx]
      subst ha
      subst hb
      go_enter Tryz.func58, Tryz.ntmps58
      go_wp2_with fail
      go_region
      go_wp2_with fail
      all_goals (go_ret; refine ⟨?_, y0.drew⟩; first | (simp [*]; done) | (rw [show decide (mn ≤ n) = false from decide_eq_false (by omega), Bool.false_and]; rfl) | (rw [show decide (mn ≤ n) = true from decide_eq_true (by omega), Bool.true_and]; rfl))
    · rw [if_pos ha, if_neg hb]
      obtain ⟨mn, hmn⟩ : ∃ m, min g b = m := ⟨_, rfl⟩
      obtain ⟨mx, hmx⟩ : ∃ m, max g b = m := ⟨_, rfl⟩
      rw [hmn, hmx]
      subst ha
      have hb2 : (b == 0) = false := by simpa using hb
      go_enter Tryz.func58, Tryz.ntmps58
      go_wp2_with fail
      go_region
      go_wp2_with fail
      all_goals (go_ret; refine ⟨?_, y0.drew⟩; first | (simp [*]; done) | (rw [show decide (mn ≤ n) = false from decide_eq_false (by omega), Bool.false_and]; rfl) | (rw [show decide (mn ≤ n) = true from decide_eq_true (by omega), Bool.true_and]; rfl))
  · by_cases hb : b = 0
    · rw [if_neg ha, if_pos hb]
      obtain ⟨mn, hmn⟩ : ∃ m, min a g = m := ⟨_, rfl⟩
      obtain ⟨mx, hmx⟩ : ∃ m, max a g = m := ⟨_, rfl⟩
      rw [hmn, hmx]
      have ha2 : (a == 0) = false := by simpa using ha
      subst hb
      go_enter Tryz.func58, Tryz.ntmps58
      go_wp2_with fail
      go_region
      go_wp2_with fail
      all_goals (go_ret; refine ⟨?_, y0.drew⟩; first | (simp [*]; done) | (rw [show decide (mn ≤ n) = false from decide_eq_false (by omega), Bool.false_and]; rfl) | (rw [show decide (mn ≤ n) = true from decide_eq_true (by omega), Bool.true_and]; rfl))
    · rw [if_neg ha, if_neg hb]
      obtain ⟨mn, hmn⟩ : ∃ m, min a b = m := ⟨_, rfl⟩
      obtain ⟨mx, hmx⟩ : ∃ m, max a b = m := ⟨_, rfl⟩
      rw [hmn, hmx]
      have ha2 : (a == 0) = false := by simpa using ha
      have hb2 : (b == 0) = false := by simpa using hb
      go_enter Tryz.func58, Tryz.ntmps58
      go_wp2_with fail
      go_region
      go_wp2_with fail
      all_goals (go_ret; refine ⟨?_, y0.drew⟩; first | (simp [*]; done) | (rw [show decide (mn ≤ n) = false from decide_eq_false (by omega), Bool.false_and]; rfl) | (rw [show decide (mn ≤ n) = true from decide_eq_true (by omega), Bool.true_and]; rfl))
set_option maxRecDepth 100000 in
set_option maxHeartbeats 4000000 in
theorem contH_any (v : Value) (l : List Rg) (n gr : Int) (B C : Nat) (w : World) (hv : RgRow w v l) (hB : w.cell? ⟨B, 0, none⟩ = some (.int .i64 n)) (hC : w.cell? ⟨C, 0, none⟩ = some (.int .i64 gr)) :
    Calls Tryz.prog 57 #[v, .func (.func 58) #[] #[.pointer (some ⟨C, 0, none⟩), .pointer (some ⟨B, 0, none⟩)]] w fun e w' => e = .returned (.bool (l.any (inR n gr))) ∧ Below w.heap.size w w' := by
  obtain ⟨ao, cap, rfl, hcap, hcm, hcell⟩ := hv
  have HC := Lib.hid hcell
  have hlm : l.length ≤ 9223372036854775807 := by omega
  clear hcell hcap hcm
  have cI : Calls Tryz.prog 96 #[.slice ao l.length cap, .func (.func 58) #[] #[.pointer (some ⟨C, 0, none⟩), .pointer (some ⟨B, 0, none⟩)]] w fun e w' => ∃ k : Int, e = .returned (.int .i64 k) ∧ (decide (0 ≤ k) = l.any (inR n gr)) ∧ Below w.heap.size w w' := by
    go_enter Tryz.func96, Tryz.ntmps96
    go_wp2_with fail
    go_loopg [5, 8] l.length (fun g s5 s8 wr => ∃ k : Nat, k + g = l.length ∧ s8 = .int .i64 (k : Int) ∧ Below w.heap.size w wr ∧ Hid ((l.take k).any (inR n gr) = false))
    case atStart => exact ⟨0, by omega, rfl, Below.refl _ _, Lib.hid rfl⟩
    case round =>
      obtain ⟨k, hk, rfl, hbr, HT⟩ := hrel
      by_cases hlt : k < l.length
      · obtain ⟨g', rfl⟩ : ∃ g', gk = g' + 1 := ⟨gk - 1, by omega⟩
        obtain ⟨r, hr⟩ : ∃ r, l[k]? = some r := ⟨l[k], List.getElem?_eq_getElem hlt⟩
        have htk : (l.take (k + 1)).any (inR n gr) = ((l.take k).any (inR n gr) || (inR n gr) r) := by rw [List.take_add_one, hr]; simp
        rw [HT.out, Bool.false_or] at htk
        obtain ⟨b, off, rfl, hb, c0, c1⟩ := HC.out k r hr
        have d0 := (hbr.cell (p := ⟨b, off + k * 2, none⟩) hb).trans c0
        have d1 := (hbr.cell (p := ⟨b, off + k * 2 + 1, none⟩) hb).trans c1
        have hltz : (k : Int) < (l.length : Int) := by omega
        have cF : Calls Tryz.prog 58 #[.agg #[.int .i64 r.1, .int .i64 r.2], .pointer (some ⟨C, 0, none⟩), .pointer (some ⟨B, 0, none⟩)] wr fun e w' => e = .returned (.bool ((inR n gr) r)) ∧ Below wr.heap.size wr w' := in1_any r n gr B C wr ((hbr.cell (p := ⟨B, 0, none⟩) (World.block_lt_of_cell? _ _ hB)).trans hB) ((hbr.cell (p := ⟨C, 0, none⟩) (World.block_lt_of_cell? _ _ hC)).trans hC)
        clear c0 c1
        cases hp : (inR n gr) r with
        | true =>
          rw [hp] at cF htk
          have HA : Hid (l.any (inR n gr) = true) := Lib.hid (by rw [List.any_eq_true]; exact ⟨r, List.mem_of_getElem? hr, hp⟩)
          clear hp hr htk
          go_wp2_with (go_at_call 58; go_loud (((with_reducible refine cF.mono ?_); rintro e w1 ⟨rfl, h⟩; have y := hbr.trans (h.mono hbr.size))))
          go_ret
          exact ⟨(k : Int), rfl, by rw [HA.out]; exact decide_eq_true (by omega), y⟩
        | false =>
          rw [hp] at cF htk
          have HT2 := Lib.hid htk
          clear hp hr htk
          go_wp2_with (go_at_call 58; go_loud (((with_reducible refine cF.mono ?_); rintro e w1 ⟨rfl, h⟩; have y := hbr.trans (h.mono hbr.size))))
          go_roundg g'
          case measure => omega
          case rel => exact ⟨k + 1, by omega, by go_num, y, HT2⟩
      · have HA : Hid (l.any (inR n gr) = false) := Lib.hid (by have := HT.out; rwa [List.take_of_length_le (by omega)] at this)
        go_wp2_with fail
        go_ret
        exact ⟨-1, rfl, by rw [HA.out]; rfl, hbr⟩
  go_enter Tryz.func57, Tryz.ntmps57
  go_wp2_with (go_at_call 96; go_loud (((with_reducible refine cI.mono ?_); rintro e w1 ⟨k, rfl, hk, h⟩; have HK := Lib.hid hk; clear hk)))
  go_ret
  exact ⟨by rw [← HK.out]; rfl, h⟩
set_option maxRecDepth 100000 in
set_option maxHeartbeats 2000000 in
theorem hasS_any (v : Value) (l : List Rg) (n g : Int) (w : World) (hv : RgRow w v l) : Calls Tryz.prog 27 #[v, .int .i64 n, .int .i64 g] w fun e w' => e = .returned (.bool (hasS l n g)) ∧ Below w.heap.size w w' := by
  have s1 := alloc_size w (.cells #[.int .i64 n] 3)
  have s2 := alloc_size (w.alloc (.cells #[.int .i64 n] 3)) (.cells #[.int .i64 g] 3)
  have k1 := World.heap_alloc_new w (.cells #[.int .i64 n] 3)
  have k2 := World.heap_alloc_new (w.alloc (.cells #[.int .i64 n] 3)) (.cells #[.int .i64 g] 3)
  rw [s1] at k2
  have y0 := ((Below.refl w.heap.size w).alloc (Nat.le_refl _) (.cells #[.int .i64 n] 3)).alloc (by rw [s1]; omega) (.cells #[.int .i64 g] 3)
  have cH := contH_any v l n g w.heap.size (w.heap.size + 1) _ (hv.below y0) (by rw [Lib.cell_of_heap (alloc_same k1)]; rfl) (by rw [Lib.cell_of_heap k2]; rfl)
  have hmf : ∀ (fn : Fn) (first cap : Array Value) (w : World), (Instr.makeFunc fn first cap).run Tryz.prog w = .ok (.func fn first cap) w := fun _ _ _ _ => rfl
  have HY := Lib.hid y0
  have HX : Hid (hasS l n g = l.any (inR n g)) := Lib.hid rfl
  clear k1 k2 y0 hv
  go_enter Tryz.func27, Tryz.ntmps27
  go_wp2_with (go_at_call 57; go_loud (((with_reducible refine cH.mono ?_); rintro e w1 ⟨rfl, h⟩; have y := HY.out.trans (h.mono HY.out.size))))
  go_ret
  exact ⟨by rw [HX.out]; rfl, y⟩
end Go.Proofs.YtcahhnjponeeeaaGreatDoor
