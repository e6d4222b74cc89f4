/- What is needed for the walk over mime's part: what a part's block holds, what all others keep, an append of six cells. No condition beyond those each names. -/
import Derived.Test.YtmjfhhladicacaaGreatDoorMimeA
namespace Go.Proofs.YtmjfhhladicacaaGreatDoor
open Go.RowKit Go.Shelf

/-- all below B but one block is as it was -/
structure ButAt (Q B : Nat) (a w : World) : Prop where
  os : w.os = a.os
  tape : w.tape = a.tape
  output : w.output = a.output
  size : a.heap.size ≤ w.heap.size
  block : ∀ k, k < B → k ≠ Q → w.heap[k]? = a.heap[k]?
theorem ButAt.refl (Q B : Nat) (w : World) : ButAt Q B w w := ⟨rfl, rfl, rfl, Nat.le_refl _, fun _ _ _ => rfl⟩
theorem ButAt.trans {Q B : Nat} {a b c : World} (h : ButAt Q B a b) (k : ButAt Q B b c) : ButAt Q B a c :=
  ⟨k.os.trans h.os, k.tape.trans h.tape, k.output.trans h.output, Nat.le_trans h.size k.size, fun i hi hq => (k.block i hi hq).trans (h.block i hi hq)⟩
theorem ButAt.mono {Q B B' : Nat} {a w : World} (h : ButAt Q B a w) (hB : B' ≤ B) : ButAt Q B' a w := ⟨h.os, h.tape, h.output, h.size, fun k hk => h.block k (Nat.lt_of_lt_of_le hk hB)⟩
theorem ButAt.of {Q B : Nat} {a w : World} (h : Below B a w) : ButAt Q B a w := ⟨h.os, h.tape, h.output, h.size, fun k hk _ => h.block k hk⟩
theorem ButAt.below {Q B : Nat} {a w : World} (h : ButAt Q B a w) (hQ : B ≤ Q) : Below B a w := ⟨h.os, h.tape, h.output, h.size, fun k hk => h.block k hk (by omega)⟩
theorem ButAt.next {Q B : Nat} {a w w' : World} (h : ButAt Q B a w) (hB : B ≤ w.heap.size) (k : Below w.heap.size w w') : ButAt Q B a w' := h.trans (ButAt.of (k.mono hB))
theorem ButAt.setQ {Q B : Nat} {a w : World} (h : ButAt Q B a w) (i : Nat) (u : Value) : ButAt Q B a (w.setCell ⟨Q, i, none⟩ u) :=
  h.trans ⟨rfl, rfl, rfl, by simp [World.setCell], fun k _ hq => Below.heap_setCell _ _ _ _ hq⟩
theorem ButAt.setCell {Q B : Nat} {a w : World} (h : ButAt Q B a w) {p : Addr} (hp : B ≤ p.block) (u : Value) : ButAt Q B a (w.setCell p u) :=
  h.trans (ButAt.of ((Below.refl B w).setCell hp u))
theorem ButAt.alloc {Q B : Nat} {a w : World} (h : ButAt Q B a w) (hB : B ≤ w.heap.size) (o : Obj) : ButAt Q B a (w.alloc o) :=
  h.trans (ButAt.of ((Below.refl B w).alloc hB o))

theorem parsAt_set {W : World} {Q : Nat} {s : List UInt8} {n : Nat} (h : ParsAt W Q s n) (m : Nat) : ParsAt (W.setCell ⟨Q, 1, none⟩ (.int .i64 (m : Int))) Q s m := by
  unfold ParsAt at h ⊢
  simp only [World.setCell, Array.getElem?_modify, if_pos, h]
  simp
theorem parsAt_same {W W' : World} {Q : Nat} {s : List UInt8} {n : Nat} (h : ParsAt W Q s n) (hs : W'.heap[Q]? = W.heap[Q]?) : ParsAt W' Q s n := hs.trans h
theorem parsAt_lt {W : World} {Q : Nat} {s : List UInt8} {n : Nat} (h : ParsAt W Q s n) : Q < W.heap.size := (Array.getElem?_eq_some_iff.1 h).1

/-- a part's six cells -/
def cells6 (t : PT) (v : Value) : List Value := [.string ⟨t.ty.toArray⟩, .string ⟨t.bd.toArray⟩, .int .i64 (t.fr : Int), .int .i64 (t.to : Int), .int .i64 (t.ln : Int), v]
/-- a slice value that reads as a list of parts, in blocks that are such as ok says -/
inductive Reads (W : World) (ok : Nat → Prop) : Value → List PT → Prop
  | empty : Reads W ok (.slice none 0 0) []
  | row (g cap : Nat) (l : List PT) (vs : Nat → Value) : ok g → g < W.heap.size → (∀ (j : Nat) (t : PT), l[j]? = some t → ∀ i u, (cells6 t (vs j))[i]? = some u → W.cell? ⟨g, j * 6 + i, none⟩ = some u) →
      (∀ (j : Nat) (t : PT), l[j]? = some t → Reads W ok (vs j) t.ps) → Reads W ok (.slice (some ⟨g, 0, none⟩) l.length cap) l
theorem reads_keep {W W' : World} {ok ok' : Nat → Prop} {v : Value} {l : List PT} (h : Reads W ok v l) (hs : W.heap.size ≤ W'.heap.size) (hk : ∀ j, ok j → j < W.heap.size → W'.heap[j]? = W.heap[j]?) (hok : ∀ j, ok j → j < W.heap.size → ok' j) : Reads W' ok' v l := by
  induction h with
  | empty => exact .empty
  | row g cap l vs h1 h2 h3 _ ih =>
    exact .row g cap l vs (hok g h1 h2) (Nat.lt_of_lt_of_le h2 hs) (fun j t hj i u hu => (World.cell?_of_block (w := W) (a := ⟨g, j * 6 + i, none⟩) (hk g h1 h2)).trans (h3 j t hj i u hu)) ih
theorem reads_below {W W' : World} {ok : Nat → Prop} {v : Value} {l : List PT} (h : Reads W ok v l) (hb : Below W.heap.size W W') : Reads W' ok v l :=
  reads_keep h hb.size (fun j _ hj => hb.block j hj) (fun _ h _ => h)

/-- parts, each with the value of its own parts' slice, in one row -/
def cellsL (l : List (PT × Value)) : List Value := l.flatMap fun x => cells6 x.1 x.2
theorem cellsL_snoc (l : List (PT × Value)) (x : PT × Value) : cellsL l ++ cells6 x.1 x.2 = cellsL (l ++ [x]) := by simp [cellsL]
theorem cellsL_at : ∀ (l : List (PT × Value)) (j : Nat) (x : PT × Value), l[j]? = some x → ∀ i u, (cells6 x.1 x.2)[i]? = some u → (cellsL l)[j * 6 + i]? = some u
  | [], j, x, h => by simp at h
  | y :: l, 0, x, h => by
    simp at h; subst h
    intro i u hi
    have e : cellsL (y :: l) = cells6 y.1 y.2 ++ cellsL l := rfl
    have hl : i < (cells6 y.1 y.2).length := (List.getElem?_eq_some_iff.1 hi).1
    rw [e, Nat.zero_mul, Nat.zero_add, List.getElem?_append_left hl]
    exact hi
  | y :: l, j + 1, x, h => by
    intro i u hi
    have ih := cellsL_at l j x (by simpa using h) i u hi
    have e : cellsL (y :: l) = cells6 y.1 y.2 ++ cellsL l := rfl
    have hl : (cells6 y.1 y.2).length = 6 := rfl
    rw [e, List.getElem?_append_right (by omega), hl, show (j + 1) * 6 + i - 6 = j * 6 + i by omega]
    exact ih
theorem cells6_len (t : PT) (v : Value) : (cells6 t v).length = 6 := rfl
theorem cellsL_len : ∀ l : List (PT × Value), (cellsL l).length = l.length * 6
  | [] => rfl
  | x :: l => by
    have := cellsL_len l
    have e : cellsL (x :: l) = cells6 x.1 x.2 ++ cellsL l := rfl
    rw [e, List.length_append, this, cells6_len, List.length_cons]; omega
theorem reads_of_owns {w : World} {B : Nat} {ok : Nat → Prop} {v : Value} {l : List (PT × Value)} (h : w.ownsRow B 25 6 v l.length (cellsL l)) (hok : ∀ g, v.ownBlock = some g → ok g) (hr : ∀ x ∈ l, Reads w ok x.2 x.1.ps) : Reads w ok v (l.map (·.1)) := by
  rcases h.2 with ⟨rfl, h0⟩ | ⟨g, cap, cur, rfl, hg, hh, h3, h4, h5, h6⟩
  · have : l = [] := List.eq_nil_of_length_eq_zero h0
    subst this
    exact .empty
  · have hlen : l.length = (l.map (·.1)).length := by simp
    have key := Reads.row (W := w) (ok := ok) g cap (l.map (·.1)) (fun j => (l[j]?.map (·.2)).getD .nilIface) (hok g rfl) (Array.getElem?_eq_some_iff.1 hh).1 ?_ ?_
    · rw [← hlen] at key; exact key
    · intro j t hj i u hu
      rw [List.getElem?_map] at hj
      obtain ⟨x, hx, rfl⟩ := Option.map_eq_some_iff.1 hj
      have hjl : j < l.length := (List.getElem?_eq_some_iff.1 hx).1
      simp only [hx, Option.map_some, Option.getD_some] at hu
      have hi : i < 6 := by
        have := (List.getElem?_eq_some_iff.1 hu).1
        rwa [cells6_len] at this
      exact (h.cellAt (j * 6 + i) (by omega)).trans (cellsL_at l j x hx i u hu)
    · intro j t hj
      rw [List.getElem?_map] at hj
      obtain ⟨x, hx, rfl⟩ := Option.map_eq_some_iff.1 hj
      simp only [hx, Option.map_some, Option.getD_some]
      exact hr x (List.mem_of_getElem? hx)

theorem part_info : (Tryz.prog.info? 25).map (fun i => (i.zero, i.size, i.bytes)) = some (some (.agg #[.string ByteArray.empty, .string ByteArray.empty, .int .i64 0, .int .i64 0, .int .i64 0, .slice none 0 0]), 6, 80) := by kernel_rfl
section
variable {P : Program} {ops : Array Oper} {rest : List Oper} {o : Oper} {a : Act} {Q : Exit → Act → World → Prop}
/-- append(v, x), v owned, x of six cells in a new block; where the new row lies -/
theorem wpList_app6 (hgd : o.guard = none) (s x : Operand) (t : TypeId) (ho : o.op = .call { callee := .builtin .append, args := #[s, x], argTypes := #[t, t] })
    (e : TypeId) {z : Value} {bytes : Nat} (ht : P.underlying t = some (.slice e)) (hinfo : (P.info? e).map (fun i => (i.zero, i.size, i.bytes)) = some (some z, 6, bytes)) (hzs : z.cells.size = 6)
    (base : Nat) (v : Value) (n : Nat) (xs : List Value) (w : World) (hs : a.eval s = v) (hown : w.ownsRow base e 6 v n xs)
    (y0 y1 y2 y3 y4 y5 : Value) (N : Nat) (hx : a.eval x = .slice (some ⟨N, 0, none⟩) 1 1) (hN : N = w.heap.size) (h1 : ∀ u ∈ [y0, y1, y2, y3, y4, y5], u.oneCell' = true)
    (hn : n + 1 ≤ 4294967296) (hb : bytes ≤ 128) (hbase : base ≤ w.heap.size)
    (h : ∀ g cap w', w'.ownsRow base e 6 (.slice (some ⟨g, 0, none⟩) (n + 1) cap) (n + 1) (xs ++ [y0, y1, y2, y3, y4, y5]) → (w.alloc (.cells #[y0, y1, y2, y3, y4, y5] e)).grownBy w' v.ownBlock → (v.ownBlock = some g ∨ g = w.heap.size + 1) → wpList P ops Q rest (a.put o.dst (.slice (some ⟨g, 0, none⟩) (n + 1) cap)) w') : wpList P ops Q (o :: rest) a (w.alloc (.cells #[y0, y1, y2, y3, y4, y5] e)) := by
  subst hN
  obtain ⟨i0, hi, hz0, hz1, hz2⟩ := info_parts hinfo
  refine wpList_append_lies _ hgd s x t ho base e i0 z 6 bytes ht hi hz0 hz1 hz2 hzs (by decide) v n xs hs (hown.alloc _) ⟨w.heap.size, 0, none⟩ 1 1 [y0, y1, y2, y3, y4, y5] hx rfl ?_ h1 (by decide) ?_ ?_ ?_ (w.heap.size + 1) (by simp) ?_
  · intro j u hj
    match j, hj with
    | 0, hj => simp at hj; subst hj; simp [Addr.add]
    | 1, hj => simp at hj; subst hj; simp [Addr.add]
    | 2, hj => simp at hj; subst hj; simp [Addr.add]
    | 3, hj => simp at hj; subst hj; simp [Addr.add]
    | 4, hj => simp at hj; subst hj; simp [Addr.add]
    | 5, hj => simp at hj; subst hj; simp [Addr.add]
  · unfold maxLen; omega
  · have : (n + 1) * bytes ≤ 4294967296 * 128 := Nat.mul_le_mul hn hb
    omega
  · simp; omega
  · intro g cap w' k1 k2 k3 _
    exact h g cap w' k1 k2 k3
end
theorem results_row_tmp {P : Program} {fn : Func} {p u : Tmp} {ty : TypeId} (h : fn.results = #[.cell p ty, .tmp u]) (tmps : Array Value) (w : World) (g : Nat) (T : TypeId) (cs : Array Value) (fr : Nat × Nat) (d : TypeDesc)
    (hp : tmps.getD p undef = .pointer (some ⟨g, 0, none⟩)) (hg : w.heap[g]? = some (.cells cs T fr))
    (hu : P.underlying ty = some d) (hd : (match d with | .struct _ | .array _ _ => true | _ => false) = true) (hi : (P.info? ty).map (·.size) = some cs.size) :
    (results fn tmps).run P w = .ok (.tuple #[.agg cs, tmps.getD u undef]) w := by
  have hp' : tmps[p]?.getD undef = .pointer (some ⟨g, 0, none⟩) := by simpa using hp
  simp [results, h, hp', asAddr, run_loadVar_row w g T ty cs fr d hg hu hd hi]
theorem part_size : (Tryz.prog.info? 25).map (·.size) = some 6 := by kernel_rfl
theorem set_six {w : World} {U : Nat} {a b c d e f : Value} {T : TypeId} (h : w.heap[U]? = some (.cells #[a, b, c, d, e, f] T (0, 0))) (x0 x1 x2 x3 x4 x5 : Value) :
    ((((((w.setCell ⟨U, 0, none⟩ x0).setCell ⟨U, 1, none⟩ x1).setCell ⟨U, 2, none⟩ x2).setCell ⟨U, 3, none⟩ x3).setCell ⟨U, 4, none⟩ x4).setCell ⟨U, 5, none⟩ x5).heap[U]? = some (.cells #[x0, x1, x2, x3, x4, x5] T (0, 0)) := by
  simp only [World.setCell, Array.getElem?_modify, if_pos, h]
  simp
theorem six_cells {w : World} {U : Nat} {a b c d e f : Value} {t : TypeId} {fz : Nat × Nat} (h : w.heap[U]? = some (.cells #[a, b, c, d, e, f] t fz)) :
    w.cell? ⟨U, 0, none⟩ = some a ∧ w.cell? ⟨U, 1, none⟩ = some b ∧ w.cell? ⟨U, 2, none⟩ = some c ∧ w.cell? ⟨U, 3, none⟩ = some d ∧ w.cell? ⟨U, 4, none⟩ = some e ∧ w.cell? ⟨U, 5, none⟩ = some f := by
  refine ⟨?_, ?_, ?_, ?_, ?_, ?_⟩ <;> (rw [Lib.cell_of_heap h]; rfl)
end Go.Proofs.YtmjfhhladicacaaGreatDoor
