/- What holds while seq.Parse reads a set. No condition beyond those each names. -/
import Derived.Test.YtgblgbhfgiajiaaGreatDoorSplitB
import Derived.Test.YtgblgbhfgiajiaaGreatDoorApp2
import Derived.Lib.IndexMore
namespace Go.Proofs.YtgblgbhfgiajiaaGreatDoor
open Go.RowKit Go.Shelf Go.Sort
set_option linter.unusedSimpArgs false

section
variable {F : Fence} {m : Nat} {P : Program} {ops : Array Oper} {rest : List Oper} {o : Oper} {a : Act} {Q : Exit → Act → World → Prop}
theorem wpListIn_app2 (hgd : o.guard = none) (s x : Operand) (t : TypeId) (ho : o.op = .call { callee := .builtin .append, args := #[s, x], argTypes := #[t, t] })
    (e : TypeId) {z : Value} {bytes : Nat} (ht : P.underlying t = some (.slice e)) (hinfo : (P.info? e).map (fun i => (i.zero, i.size, i.bytes)) = some (some z, 2, bytes)) (hzs : z.cells.size = 2)
    (base : Nat) (v : Value) (n : Nat) (xs : List Value) (w : World) (hs : a.eval s = v) (hown : w.ownsRow base e 2 v n xs)
    (y y2 : Value) (hx : a.eval x = .slice (some ⟨w.heap.size, 0, none⟩) 1 1) (h1 : y.oneCell' = true) (h2 : y2.oneCell' = true)
    (hn : n + 1 ≤ 4294967296) (hb : bytes ≤ 64) (hbase : base ≤ w.heap.size)
    (h : ∀ v' w', w'.ownsRow base e 2 v' (n + 1) (xs ++ [y, y2]) → (w.alloc (.cells #[y, y2] e)).grownBy w' v.ownBlock → v' ≠ .slice none 0 0 → wpListIn F m P ops Q rest (a.put o.dst v') w') : wpListIn F m P ops Q (o :: rest) a (w.alloc (.cells #[y, y2] e)) := by
  obtain ⟨i0, hi, hz0, hz1, hz2⟩ := info_parts hinfo
  refine wpListIn_append_own _ hgd s x t ho base e i0 z 2 bytes ht hi hz0 hz1 hz2 hzs (by decide) v n xs hs (hown.alloc _) ⟨w.heap.size, 0, none⟩ 1 1 [y, y2] hx rfl ?_ ?_ ?_ ?_ ?_ ?_
  · intro j u hj
    match j, hj with
    | 0, hj => simp at hj; subst hj; simp [Addr.add]
    | 1, hj => simp at hj; subst hj; simp [Addr.add]
  · intro u hu; simp at hu; rcases hu with rfl | rfl
    · exact h1
    · exact h2
  · unfold maxLen; omega
  · have : (n + 1) * bytes ≤ 4294967296 * 64 := Nat.mul_le_mul hn hb
    omega
  · simp; omega
  · intro v' w' k1 k2 k3
    refine h v' w' k1 k2 ?_
    intro hv
    have := (k3.1 hv).2
    omega
end
theorem rng_info : (Tryz.prog.info? 51).map (fun i => (i.zero, i.size, i.bytes)) = some (some (.agg #[.int .i64 0, .int .i64 0]), 2, 16) := by kernel_rfl
/-- ranges in one row -/
def rgCells (l : List Rg) : List Value := l.flatMap fun r => [Value.int .i64 r.1, Value.int .i64 r.2]
theorem rgCells_snoc (l : List Rg) (r : Rg) : rgCells l ++ [Value.int .i64 r.1, Value.int .i64 r.2] = rgCells (l ++ [r]) := by simp [rgCells]
theorem keeps_below {W W' : World} (h : Below W.heap.size W W') : KeepsOthers W W' := ⟨h.size, fun k o hk _ => below_same h hk⟩

/- reading a part of a set -/
theorem sets_snoc : ∀ (pre r : List Txt) (acc acc' : List Rg), setsF pre acc = .ok acc' → setsF (pre ++ r) acc = setsF r acc'
  | [], r, acc, acc', h => by rw [setsF] at h; cases h; rfl
  | t :: pre, r, acc, acc', h => by
    rw [setsF] at h
    rw [List.cons_append, setsF]
    cases hp : pairF t with
    | none => rw [hp] at h; cases h
    | some p =>
      rw [hp] at h
      dsimp only at h ⊢
      split at h
      · cases h
      · rename_i hne
        rw [if_neg hne]
        exact sets_snoc pre r _ _ h
theorem sets_bad : ∀ (pre r : List Txt) (acc : List Rg) (n : Nat), setsF pre acc = .error n → setsF (pre ++ r) acc = .error n
  | [], r, acc, n, h => by rw [setsF] at h; cases h
  | t :: pre, r, acc, n, h => by
    rw [setsF] at h
    rw [List.cons_append, setsF]
    cases hp : pairF t with
    | none => rw [hp] at h; exact h
    | some p =>
      rw [hp] at h
      dsimp only at h ⊢
      split at h
      · rename_i he; rw [if_pos he]; exact h
      · rename_i hne
        rw [if_neg hne]
        exact sets_bad pre r _ _ h
/-- the two texts of a part -/
def twoF (t : Txt) : Txt × Txt := if Lib.index t [58] < 0 then (t, t) else (t.take (Lib.index t [58]).toNat, t.drop ((Lib.index t [58]).toNat + 1))
theorem pair_two (t : Txt) : pairF t = match numS (twoF t).1, numS (twoF t).2 with
    | some x, some y => some (x, y)
    | _, _ => none := by
  unfold pairF twoF
  split
  · dsimp only; cases numS t <;> rfl
  · rfl
theorem cut_one {t : Txt} (h : Lib.index t [58] < 0) : Lib.cut t [58] = (t, [], false) := by unfold Lib.cut; rw [if_neg (by omega)]
theorem cut_two {t : Txt} (h : ¬ Lib.index t [58] < 0) : Lib.cut t [58] = ((twoF t).1, (twoF t).2, true) := by
  unfold Lib.cut twoF; rw [if_pos (by omega), if_neg h]; rfl
theorem two_one {t : Txt} (h : Lib.index t [58] < 0) : twoF t = (t, t) := by unfold twoF; rw [if_pos h]
theorem two_len (t : Txt) : (twoF t).1.length ≤ t.length ∧ (twoF t).2.length ≤ t.length := by
  unfold twoF
  split
  · exact ⟨Nat.le_refl _, Nat.le_refl _⟩
  · simp only [List.length_take, List.length_drop]; omega

/-- what holds between two rounds -/
structure ParI (N : Nat) (w0 : World) (acc : List Rg) (ov : Value) (W : World) : Prop where
  r1 : W.heap[N]? = some (.cells #[.slice none 0 0] 22 (0, 0))
  r2 : W.heap[N + 1]? = some (.cells #[.nilIface] 29 (0, 0))
  out : W.heap[N + 2]? = some (.cells #[ov] 22 (0, 0))
  own : W.ownsRow N 51 2 ov acc.length (rgCells acc)
  low : Below N w0 W
  b0 : ∃ c, W.heap[N + 3]? = some (.cells c 9 (0, 0))
  b1 : ∃ c, W.heap[N + 4]? = some (.cells c 9 (0, 0))
  b2 : ∃ c, W.heap[N + 5]? = some (.cells c 3 (0, 0))
  len : acc.length ≤ 20
  siz : N + 6 ≤ W.heap.size
theorem ParI.below {N : Nat} {w0 W W' : World} {acc : List Rg} {ov : Value} (h : ParI N w0 acc ov W) (hb : Below W.heap.size W W') : ParI N w0 acc ov W' := by
  obtain ⟨c0, h0⟩ := h.b0
  obtain ⟨c1, h1⟩ := h.b1
  obtain ⟨c2, h2⟩ := h.b2
  exact ⟨below_same hb h.r1, below_same hb h.r2, below_same hb h.out, owns_below h.own hb, h.low.trans (hb.mono (by have := h.siz; omega)), ⟨c0, below_same hb h0⟩, ⟨c1, below_same hb h1⟩, ⟨c2, below_same hb h2⟩, h.len, Nat.le_trans h.siz hb.size⟩
theorem ParI.lay {N : Nat} {w0 W : World} {acc : List Rg} {ov : Value} (h : ParI N w0 acc ov W) (o : Obj) : ParI N w0 acc ov (W.alloc o) := h.below ((Below.refl _ W).alloc (Nat.le_refl _) o)
theorem ParI.put {N : Nat} {w0 W : World} {acc : List Rg} {ov : Value} (h : ParI N w0 acc ov W) {l : Nat} {o : Obj} (o' : Obj) (hN : N + 6 ≤ l) (hl : W.heap[l]? = some o) (ho : o.isCells = false) : ParI N w0 acc ov (W.putObj l o') := by
  obtain ⟨c0, h0⟩ := h.b0
  obtain ⟨c1, h1⟩ := h.b1
  obtain ⟨c2, h2⟩ := h.b2
  refine ⟨(World.putObj_heap_other (by omega)).trans h.r1, (World.putObj_heap_other (by omega)).trans h.r2, (World.putObj_heap_other (by omega)).trans h.out, ownsRow_putObj h.own o' hl ho, ?_, ⟨c0, (World.putObj_heap_other (by omega)).trans h0⟩, ⟨c1, (World.putObj_heap_other (by omega)).trans h1⟩, ⟨c2, (World.putObj_heap_other (by omega)).trans h2⟩, h.len, by rw [World.putObj_size]; exact h.siz⟩
  exact h.low.grown (grownBy_putObj' W l o') (by have := h.siz; omega) (fun k e => by cases e; omega)
/-- a block of another sort is not the row's -/
theorem row_not {W : World} {N b n : Nat} {ov : Value} {xs c : List Value} {t : TypeId} (ho : W.ownsRow N 51 2 ov n xs) {cs : Array Value} (hb : W.heap[b]? = some (.cells cs t (0, 0))) (ht : t ≠ 51) : some b ≠ ov.ownBlock := by
  intro e
  rcases ho.2 with ⟨rfl, _⟩ | ⟨g, cap, cur, rfl, _, hg, _⟩
  · simp [Value.ownBlock] at e
  · obtain rfl : b = g := by simpa [Value.ownBlock] using e
    rw [hb] at hg
    have := congrArg (fun o : Option Obj => match o with | some (.cells _ u _) => u | _ => 0) hg
    exact ht this
theorem ParI.set {N : Nat} {w0 W : World} {acc : List Rg} {ov : Value} (h : ParI N w0 acc ov W) (v : Value) : ParI N w0 acc ov (W.setCell ⟨N + 3, 0, none⟩ v) := by
  obtain ⟨c0, h0⟩ := h.b0
  obtain ⟨c1, h1⟩ := h.b1
  obtain ⟨c2, h2⟩ := h.b2
  have hne := row_not (c := []) h.own h0 (by decide)
  refine ⟨setCell_same h.r1 (by simp), setCell_same h.r2 (by simp), setCell_same h.out (by simp), h.own.kept (grownBy_setCell' W (N + 3) v) (.inr hne.symm), h.low.setCell (p := ⟨N + 3, 0, none⟩) (by simp) v, ?_, ⟨c1, setCell_same h1 (by simp)⟩, ⟨c2, setCell_same h2 (by simp)⟩, h.len, by rw [set_size]; exact h.siz⟩
  simp only [World.setCell, Array.getElem?_modify, if_pos, h0]
  exact ⟨_, rfl⟩
/-- a range more -/
theorem ParI.push {N : Nat} {w0 W w2 : World} {acc : List Rg} {ov v' : Value} (h : ParI N w0 acc ov W) (r : Rg) (hl : acc.length < 20)
    (ho : w2.ownsRow N 51 2 v' (acc.length + 1) (rgCells acc ++ [.int .i64 r.1, .int .i64 r.2])) (hg : (W.alloc (.cells #[.int .i64 r.1, .int .i64 r.2] 51)).grownBy w2 ov.ownBlock) :
    ParI N w0 (acc ++ [r]) v' (w2.setCell ⟨N + 2, 0, none⟩ v') ∧ KeepsOthers W (w2.setCell ⟨N + 2, 0, none⟩ v') ∧ (∀ k, k < N ∨ N + 3 ≤ k ∧ k ≤ N + 5 → (w2.setCell ⟨N + 2, 0, none⟩ v').heap[k]? = W.heap[k]?) ∧ w2.heap[N + 2]? = some (.cells #[ov] 22 (0, 0)) := by
  obtain ⟨c0, h0⟩ := h.b0
  obtain ⟨c1, h1⟩ := h.b1
  obtain ⟨c2, h2⟩ := h.b2
  have hz := h.siz
  have same : ∀ (k : Nat) (cs : Array Value) (t : TypeId), W.heap[k]? = some (.cells cs t (0, 0)) → t ≠ 51 → w2.heap[k]? = some (.cells cs t (0, 0)) := fun k cs t hk ht =>
    (hg.block k (by have := (Array.getElem?_eq_some_iff.1 hk).1; simp; omega) (row_not (c := []) h.own hk ht)).trans (alloc_same hk)
  have hB : Below N w0 (w2.setCell ⟨N + 2, 0, none⟩ v') := (below_app2 h.low (by omega) h.own hg).setCell (p := ⟨N + 2, 0, none⟩) (by simp) v'
  have ho2 := same _ _ _ h.out (by decide)
  have hown : (w2.setCell ⟨N + 2, 0, none⟩ v').ownsRow N 51 2 v' (acc ++ [r]).length (rgCells (acc ++ [r])) := by
    rw [← rgCells_snoc, List.length_append]
    exact ho.kept (grownBy_setCell' w2 (N + 2) v') (.inr (row_not (c := []) ho ho2 (by decide)).symm)
  have hs2 : W.heap.size + 1 ≤ w2.heap.size := by have := hg.size; simpa using this
  refine ⟨⟨setCell_same (same _ _ _ h.r1 (by decide)) (by simp), setCell_same (same _ _ _ h.r2 (by decide)) (by simp), set1 ho2, hown, hB, ⟨c0, setCell_same (same _ _ _ h0 (by decide)) (by simp)⟩, ⟨c1, setCell_same (same _ _ _ h1 (by decide)) (by simp)⟩, ⟨c2, setCell_same (same _ _ _ h2 (by decide)) (by simp)⟩, by rw [List.length_append]; simp; omega, by rw [set_size]; omega⟩, ?_, ?_, ho2⟩
  · refine ((KeepsOthers.alloc W _).trans (KeepsOthers.of_grownBy hg fun j o ej hj => ?_)).trans (KeepsOthers.setCell _ _ _)
    rcases (h.own.alloc (.cells #[.int .i64 r.1, .int .i64 r.2] 51)).2 with ⟨rfl, _⟩ | ⟨g, cap, cur, rfl, _, hgb, _⟩
    · simp [Value.ownBlock] at ej
    · obtain rfl : g = j := by simpa [Value.ownBlock] using ej
      rw [hgb] at hj; cases hj; rfl
  · rintro k hk
    rw [Below.heap_setCell _ _ _ _ (show k ≠ N + 2 by omega)]
    rcases hk with hk | ⟨hk1, hk2⟩
    · have hlow := fun j e => (h.own.lt j e).1
      rw [hg.block k (by simp; omega) (fun e => by have := hlow k e.symm; omega), Below.heap_alloc _ _ _ (by omega)]
    · rcases (show k = N + 3 ∨ k = N + 4 ∨ k = N + 5 by omega) with rfl | rfl | rfl
      · rw [h0]; exact same _ _ _ h0 (by decide)
      · rw [h1]; exact same _ _ _ h1 (by decide)
      · rw [h2]; exact same _ _ _ h2 (by decide)
end Go.Proofs.YtgblgbhfgiajiaaGreatDoor
