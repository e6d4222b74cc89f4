/- One who is told all: laws for the statement that strikes one of a row of rows. Condition: none. -/
import Derived.Test.YteabnpahhkicaaaDoorFolA
import Derived.Deep.AppendLies
import Derived.Deep.RegionLaw
namespace Go.Proofs.YteabnpahhkicaaaDoor
open Go.RowKit Go.Shelf Go.Sort
section
variable {P : Program} {ops : Array Oper} {o : Oper} {a : Act} {K : Act → World → Prop} {Q : Exit → Act → World → Prop} {E : Prop}
/-- append(v, x...), v owned and not nil, x a row of one-cell elements, none of them too, in a region that draws its order; where the new row lies -/
theorem step_appV (w : World) (hgd : o.guard = none) (s x : Operand) (t : TypeId) (ho : o.op = .call { callee := .builtin .append, args := #[s, x], argTypes := #[t, t] })
    (e : TypeId) {z : Value} {bytes : Nat} (ht : P.underlying t = some (.slice e)) (hinfo : (P.info? e).map (fun i => (i.zero, i.size, i.bytes)) = some (some z, 1, bytes)) (hzs : z.cells.size = 1)
    (base g0 n0 cap0 : Nat) (xs : List Value) (hs : a.eval s = .slice (some ⟨g0, 0, none⟩) n0 cap0) (hn0 : xs.length = n0) (hown : w.ownsRow base e 1 (.slice (some ⟨g0, 0, none⟩) n0 cap0) n0 xs)
    (ad : Addr) (l : List Value) (n cap : Nat) (hx : a.eval x = .slice (some ad) n cap) (hnl : l.length = n) (hcell : ∀ (j : Nat) (u : Value), l[j]? = some u → w.cell? (ad.add j) = some u) (hone : ∀ u ∈ l, u.oneCell' = true)
    (hn : xs.length + l.length ≤ 4294967296) (hb : bytes ≤ 64) (hbase : base ≤ w.heap.size)
    (h : ∀ g cap' n' w', Hid ((xs ++ l).length = n') → w'.ownsRow base e 1 (.slice (some ⟨g, 0, none⟩) n' cap') n' (xs ++ l) → w.grownBy w' (some g0) → (g = g0 ∨ g = w.heap.size) → K (a.put o.dst (.slice (some ⟨g, 0, none⟩) n' cap')) w') : if Region.wanted o (yielded ops a.tmps) = true then Oper.wp P o a w K Q else E := by
  subst hn0 hnl
  obtain ⟨i0, hi, hz0, hz1, hz2⟩ := info_parts hinfo
  rcases Nat.eq_zero_or_pos l.length with h0 | h0
  · obtain rfl : l = [] := List.eq_nil_of_length_eq_zero h0
    have hcap : xs.length ≤ cap0 := by
      rcases hown.2 with ⟨h9, _⟩ | ⟨g, c, cur, h9, _, _, h8, _⟩
      · cases h9
      · cases h9; exact h8
    refine step_append_room hgd s x t ho e i0 1 ht hi hz1 g0 0 xs.length cap0 hs ad 0 cap [] hx rfl (fun j u hj => by simp at hj) (fun u hu => by cases hu) (by omega) (fun j hj => by simp at hj) ?_
    have := h g0 cap0 xs.length w (Lib.hid (by simp)) (by simpa using hown) (World.grownBy.refl _ _) (Or.inl rfl)
    simpa [World.setCells] using this
  · refine step_append_lies w hgd s x t ho base e i0 z 1 bytes ht hi hz0 hz1 hz2 hzs (by decide) _ xs.length xs hs hown ad l.length cap l hx (by simp) hcell hone h0 (by unfold maxLen; omega) (by have : (xs.length + l.length) * bytes ≤ 4294967296 * 64 := Nat.mul_le_mul hn hb; omega) hbase w.heap.size rfl ?_
    intro g cap' w' k1 k2 k3 _
    exact h g cap' (xs.length + l.length) w' (Lib.hid (List.length_append ..)) k1 k2 (k3.elim (fun e => Or.inl (Option.some.inj e).symm) Or.inr)
end
theorem elemR : Tryd.prog.elem 39 = 34 := by kernel_rfl
theorem slice_uptoR (b n c k : Nat) (h : k ≤ c) (W : World) : (Instr.slice 39 (.slice (some ⟨b, 0, none⟩) n c) none (some (.int .i64 (k : Int))) none).run Tryd.prog W = .ok (.slice (some ⟨b, 0, none⟩) k c) W := by
  rw [run_slice_h W 39 _ _ _ (by rw [elemR]; exact Tryd.underlying39) .i64 (k : Int) (by omega) (by omega), elemR, Tryd.sizeOf34]
  simp [Result.andThen, sliced, add_plE]
/-- what stands behind place k; where nothing is left of the row's room, the address is the row's own -/
theorem slice_fromR (b n c k : Nat) (h : k + 1 ≤ n) (hc : n ≤ c) : ∃ off, (c ≠ k + 1 → off = k + 1) ∧ ∀ W : World, (Instr.slice 39 (.slice (some ⟨b, 0, none⟩) n c) (some (.int .i64 ((k : Int) + 1))) none none).run Tryd.prog W = .ok (.slice (some ⟨b, off, none⟩) (n - (k + 1)) (c - (k + 1))) W := by
  refine ⟨if c = k + 1 then 0 else k + 1, fun hne => if_neg hne, fun W => ?_⟩
  rw [show ((k : Int) + 1) = ((k + 1 : Nat) : Int) by omega]
  rw [run_slice_l W 39 _ _ _ (by rw [elemR]; exact Tryd.underlying39) .i64 ((k + 1 : Nat) : Int) (by omega) (by omega), elemR, Tryd.sizeOf34]
  by_cases hne : c = k + 1
  · simp [Result.andThen, sliced, hne]
  · rw [if_neg hne]
    simp [Result.andThen, sliced, hne, add_plE]
theorem own_emptyR (W : World) (B : Nat) (h : B ≤ W.heap.size) : (W.alloc (.cells #[] 34)).ownsRow B 34 1 (.slice (some ⟨W.heap.size, 0, none⟩) 0 0) 0 ([] : List Value) :=
  ⟨rfl, Or.inr ⟨W.heap.size, 0, #[], rfl, h, World.heap_alloc_new W _, Nat.le_refl _, Nat.zero_le _, rfl, rfl⟩⟩
theorem owns_cap {w : World} {B : Nat} {e : TypeId} {p n q : Nat} {xs : List Value} (h : w.ownsRow B e 1 (.slice (some ⟨p, 0, none⟩) n q) n xs) : n ≤ q := by
  rcases h.2 with ⟨h9, _⟩ | ⟨g, c, cur, h9, _, _, h8, _⟩
  · cases h9
  · cases h9; exact h8
/-- the row's first m, and what stands behind place m, as append reads them -/
theorem cells_take {w W : World} {B p n q m : Nat} {gs : List (Option Addr × Nat × Nat)} (h : w.ownsRow B 34 1 (.slice (some ⟨p, 0, none⟩) n q) n (gs.map encSl)) (hW : Below w.heap.size w W) (j : Nat) (u : Value) (hu : ((gs.take m).map encSl)[j]? = some u) : W.cell? ((⟨p, 0, none⟩ : Addr).add j) = some u := by
  have hgl : gs.length = n := by have := h.1; simpa using this
  rw [List.getElem?_map, List.getElem?_take] at hu
  split at hu
  · have hj : j < n := by
      obtain ⟨y, hy, _⟩ := Option.map_eq_some_iff.1 hu
      have := (List.getElem?_eq_some_iff.1 hy).1
      omega
    rw [add_plE, Nat.zero_add, (owns_below h hW).cellAt j (by omega), List.getElem?_map]
    exact hu
  · cases hu
theorem cells_drop {w W : World} {B p n q m off : Nat} {gs : List (Option Addr × Nat × Nat)} (h : w.ownsRow B 34 1 (.slice (some ⟨p, 0, none⟩) n q) n (gs.map encSl)) (hoff : q ≠ m + 1 → off = m + 1) (hW : Below w.heap.size w W) (j : Nat) (u : Value) (hu : ((gs.drop (m + 1)).map encSl)[j]? = some u) : W.cell? ((⟨p, off, none⟩ : Addr).add j) = some u := by
  have hgl : gs.length = n := by have := h.1; simpa using this
  have hc := owns_cap h
  rw [List.getElem?_map, List.getElem?_drop] at hu
  have hj : m + 1 + j < n := by
    obtain ⟨y, hy, _⟩ := Option.map_eq_some_iff.1 hu
    have := (List.getElem?_eq_some_iff.1 hy).1
    omega
  rw [hoff (by omega), add_plE, (owns_below h hW).cellAt (m + 1 + j) (by omega), List.getElem?_map]
  exact hu
end Go.Proofs.YteabnpahhkicaaaDoor
