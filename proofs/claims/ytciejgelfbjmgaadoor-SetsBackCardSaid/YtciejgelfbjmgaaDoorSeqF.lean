/- The walks over what SetsBack calls of the library: slices.Sort, slices.Compact, slices.BinarySearch at numbers; an append of ranges. No condition beyond those each names. -/
import Derived.Test.YtciejgelfbjmgaaDoorSeqE
import Derived.Test.YtciejgelfbjmgaaDoorPSeqM
import Derived.Deep.AppendLies
import Derived.Laws.AppendOwnNone
import Derived.Test.YtciejgelfbjmgaaDoorText
import Derived.Sort.OwnSortedInts
namespace Go.Proofs.YtciejgelfbjmgaaDoor
open Go.RowKit Go.Shelf Go.Sort
set_option linter.unusedSimpArgs false

section
variable {P : Program} {ops : Array Oper} {rest : List Oper} {o : Oper} {a : Act} {Q : Exit → Act → World → Prop}
/-- append(v, x...), v owned, x a row of ranges -/
theorem wpList_appR (hgd : o.guard = none) (s x : Operand) (t : TypeId) (ho : o.op = .call { callee := .builtin .append, args := #[s, x], argTypes := #[t, t] })
    (e : TypeId) {z : Value} {bytes : Nat} (ht : P.underlying t = some (.slice e)) (hinfo : (P.info? e).map (fun i => (i.zero, i.size, i.bytes)) = some (some z, 2, bytes)) (hzs : z.cells.size = 2)
    (base : Nat) (v : Value) (xs : List Rg) (w : World) (hs : a.eval s = v) (hown : w.ownsRow base e 2 v xs.length (rgCells xs))
    (xv : Value) (l : List Rg) (hx : a.eval x = xv) (hr : RgRow w xv l)
    (hn : xs.length + l.length ≤ 4294967296) (hb : bytes ≤ 64) (hbase : base ≤ w.heap.size)
    (h : ∀ v' w', w'.ownsRow base e 2 v' (xs ++ l).length (rgCells (xs ++ l)) → w.grownBy w' v.ownBlock → wpList P ops Q rest (a.put o.dst v') w') : wpList P ops Q (o :: rest) a w := by
  obtain ⟨ao, cap, rfl, hcap, ⟨_, hnone⟩, hcell⟩ := hr
  obtain ⟨i0, hi, hz0, hz1, hz2⟩ := info_parts hinfo
  cases l with
  | nil =>
    cases ao with
    | none =>
      refine wpList_append_own_none hgd s x t ho base e i0 2 ht hi v xs.length (rgCells xs) hs hown (by rw [hx, hnone rfl]; rfl) (h v w (by simpa using hown) (World.grownBy.refl _ _))
    | some p =>
      refine wpList_append_own _ hgd s x t ho base e i0 z 2 bytes ht hi hz0 hz1 hz2 hzs (by decide) v xs.length (rgCells xs) hs hown p 0 cap [] (by simpa using hx) rfl (fun j u hj => by simp at hj) (fun u hu => by cases hu) (by unfold maxLen; simp only [List.length_nil] at hn; omega) (by simp only [List.length_nil] at hn; have : (xs.length + 0) * bytes ≤ 4294967296 * 64 := Nat.mul_le_mul (by omega) hb; omega) hbase ?_
      intro v' w' k1 k2 _
      exact h v' w' (by simpa using k1) k2
  | cons y r =>
    obtain ⟨b, off, rfl, _, _⟩ := hcell 0 y rfl
    refine wpList_append_own _ hgd s x t ho base e i0 z 2 bytes ht hi hz0 hz1 hz2 hzs (by decide) v xs.length (rgCells xs) hs hown ⟨b, off, none⟩ (y :: r).length cap (rgCells (y :: r)) hx (rgCells_len _) ?_ ?_ (by unfold maxLen; omega) (by have : (xs.length + (y :: r).length) * bytes ≤ 4294967296 * 64 := Nat.mul_le_mul hn hb; omega) hbase ?_
    · intro j u hj
      have hjl := (List.getElem?_eq_some_iff.1 hj).1
      rw [rgCells_len] at hjl
      obtain ⟨t', ht'⟩ : ∃ t', (y :: r)[j / 2]? = some t' := ⟨(y :: r)[j / 2], List.getElem?_eq_getElem (by omega)⟩
      obtain ⟨b', off', e1, _, e3, e4⟩ := hcell (j / 2) t' ht'
      obtain ⟨k1, k2⟩ := rgCells_at _ _ _ ht'
      cases e1
      rcases (show j = j / 2 * 2 ∨ j = j / 2 * 2 + 1 by omega) with h' | h'
      · rw [h'] at hj ⊢
        rw [k1] at hj
        rw [← hj, add_pl]; exact e3
      · rw [h'] at hj ⊢
        rw [k2] at hj
        rw [← hj, add_pl, ← Nat.add_assoc]; exact e4
    · intro u hu
      unfold rgCells at hu
      rw [List.mem_flatMap] at hu
      obtain ⟨t', _, hu⟩ := hu
      rcases List.mem_cons.1 hu with rfl | hu
      · rfl
      · rw [List.mem_singleton] at hu; subst hu; rfl
    · intro v' w' k1 k2 _
      refine h v' w' ?_ k2
      rw [List.length_append, rgCells_app]
      exact k1
end
theorem irow_own {W : World} {base : Nat} {v : Value} {l : List Int} (h : W.ownsRow base 3 1 v l.length (l.map (Value.int .i64))) : IRow W v l := by
  have h0 := h
  rcases h.2 with ⟨rfl, h1⟩ | ⟨g, cap, cur, rfl, a1, a2, a3, a4, _⟩
  · exact ⟨none, 0, by rw [h1], by omega, by decide, fun j t hj => by rw [List.length_eq_zero_iff.1 h1] at hj; simp at hj⟩
  · refine ⟨some ⟨g, 0, none⟩, cap, rfl, a3, by unfold maxLen at a4; omega, fun j t hj => ?_⟩
    have hl := (List.getElem?_eq_some_iff.1 hj).1
    have k1 := h0.cellAt j (by omega)
    rw [List.getElem?_map, hj] at k1
    exact ⟨g, 0, rfl, (Array.getElem?_eq_some_iff.1 a2).1, by rw [Nat.zero_add]; exact k1⟩
theorem sortI_any (v : Value) (zs : List Int) (base : Nat) (w : World) (hv : w.ownsRow base 3 1 v zs.length (zs.map (Value.int .i64))) (hl : zs.length ≤ 1000000) :
    Calls Tryd.prog 11 #[v] w fun e w' => e = .returned (.tuple #[]) ∧ w'.ownsRow base 3 1 v zs.length ((zs.mergeSort fun x y => decide (x ≤ y)).map (Value.int .i64)) ∧ w.grownBy w' v.ownBlock := by
  have h0 := hv
  rcases hv.2 with ⟨rfl, h1⟩ | ⟨g, cap, cur, rfl, a1, a2, a3, a4, a5, a6⟩
  · have h2 : zs = [] := List.length_eq_zero_iff.1 h1
    subst h2
    refine (Tryd.slices_Sort_int_none none 0 w).mono ?_
    rintro e w' ⟨rfl, rfl⟩
    exact ⟨rfl, by simpa using h0, World.grownBy.refl _ _⟩
  · rw [Nat.mul_one] at a5 a6
    have hg := (Array.getElem?_eq_some_iff.1 a2).1
    refine (Tryd.slices_Sort_int g 0 cap zs w (holds_of_blockI a2 a6) hg (by omega)).mono ?_
    rintro e w' ⟨rfl, n, os, rfl⟩
    exact ⟨rfl, ownsRow_sortedI (by simp) a1 a2 a3 a4 (by omega), grownBy_sortedI _⟩
theorem compI_any (v : Value) (zs : List Int) (base : Nat) (w : World) (hv : w.ownsRow base 3 1 v zs.length (zs.map (Value.int .i64))) (hl : zs.length ≤ 1000000) (hc : (Lib.compact zs).length ≤ zs.length) :
    Calls Tryd.prog 12 #[v] w fun e w' => ∃ r, e = .returned r ∧ IRow w' r (Lib.compact zs) ∧ w.grownBy w' v.ownBlock := by
  have h0 := hv
  rcases hv.2 with ⟨rfl, h1⟩ | ⟨g, cap, cur, rfl, a1, a2, a3, a4, a5, a6⟩
  · have h2 : zs = [] := List.length_eq_zero_iff.1 h1
    subst h2
    refine (Tryd.slices_Compact_int_empty none 0 w).mono ?_
    rintro e w' ⟨rfl, rfl⟩
    exact ⟨_, rfl, ⟨none, 0, by simp [Lib.compact, Lib.compactUpTo], by simp [Lib.compact, Lib.compactUpTo], by decide, fun j n hj => by simp [Lib.compact, Lib.compactUpTo] at hj⟩, World.grownBy.refl _ _⟩
  · rw [Nat.mul_one] at a5 a6
    have hg := (Array.getElem?_eq_some_iff.1 a2).1
    refine (Tryd.slices_Compact_int g 0 cap zs w (holds_of_blockI a2 a6) (by omega) a3).mono ?_
    rintro e w' ⟨rfl, q, rfl⟩
    have hgr := grownBy_sortedI (w := w) (g := g) (n := q) (os := #[]) (Lib.compact zs ++ List.replicate (zs.length - (Lib.compact zs).length) 0).toArray
    have hhp := heap_sortedI (w := w) (g := g) (n := q) (os := #[]) (Lib.compact zs ++ List.replicate (zs.length - (Lib.compact zs).length) 0).toArray a2
    have eg : ∀ X : World, grow X #[] = X := fun X => by simp [grow]
    rw [eg] at hgr hhp
    refine ⟨_, rfl, ⟨some ⟨g, 0, none⟩, cap, rfl, by omega, by unfold maxLen at a4; omega, fun j n hj => ⟨g, 0, rfl, (Array.getElem?_eq_some_iff.1 hhp).1, ?_⟩⟩, hgr⟩
    have hjl := (List.getElem?_eq_some_iff.1 hj).1
    rw [Lib.cell_of_heap hhp, Nat.zero_add]
    have hlen : (Lib.compact zs ++ List.replicate (zs.length - (Lib.compact zs).length) 0).length = zs.length := by simp; omega
    have ht := take_putCellsI cur (Lib.compact zs ++ List.replicate (zs.length - (Lib.compact zs).length) 0) (by rw [hlen]; omega)
    rw [hlen] at ht
    have h5 := congrArg (fun L => L[j]?) ht
    rw [List.getElem?_take_of_lt (by omega), Array.getElem?_toList, List.getElem?_map, List.getElem?_append_left hjl, hj] at h5
    exact h5
theorem searchI_any (v : Value) (zs : List Int) (x : Int) (w : World) (hv : IRow w v zs) (hl : zs.length ≤ 1000000) (hs : zs.Pairwise (· < ·)) :
    Calls Tryd.prog 14 #[v, .int .i64 x] w fun e w' => ∃ p : Int, e = .returned (.tuple #[.int .i64 p, .bool (decide (x ∈ zs))]) ∧ Below w.heap.size w w' := by
  obtain ⟨ao, cap, rfl, h1, h2, hcell⟩ := hv
  cases zs with
  | nil =>
    refine (Tryd.slices_BinarySearch_int_empty ao cap x w).mono ?_
    rintro e w' ⟨rfl, rfl⟩
    exact ⟨0, rfl, Below.refl _ _⟩
  | cons y r =>
    obtain ⟨b, off, rfl, hb, _⟩ := hcell 0 y rfl
    refine (Tryd.slices_BinarySearch_int b off (y :: r).length cap (y :: r) x w (Nat.le_refl _) (by omega) (fun j hj => ?_) (by rw [List.take_length]; exact hs.imp (fun h => Int.le_of_lt h))).mono ?_
    · obtain ⟨b', off', e1, _, e3⟩ := hcell j _ (List.getElem?_eq_getElem hj)
      cases e1
      rw [e3]; simp [List.getD, List.getElem?_eq_getElem hj]
    · rintro e w' ⟨rfl, q, rfl⟩
      refine ⟨_, by rw [List.take_length]; congr 6; rw [Bool.eq_iff_iff, List.contains_iff_mem, decide_eq_true_eq], ⟨rfl, rfl, rfl, Nat.le_refl _, fun _ _ => rfl⟩⟩
end Go.Proofs.YtciejgelfbjmgaaDoor
