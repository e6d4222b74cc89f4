/- The walk over a house's Save. Conditions: none beyond the house's own. The walk over a house's Save. Conditions: none beyond the house's own. -/
import Derived.Test.YtdlfbhbgemoelaaGreatDoorHouT
import Derived.Deep.RegionHeld3
namespace Go.Proofs.YtdlfbhbgemoelaaGreatDoor
open Go.RowKit Go.Shelf Go.Sort Go.Maps
set_option linter.unusedSimpArgs false

theorem sortedW_at (B b nn : Nat) (D0 : DataW Unit) (R : Value → Option (DataW Unit × List MemPlace)) (L : List Bs) (z : DataW Unit) (e0 : Bs → DataW Unit) (w : World) (hB : B < w.heap.size) (hc : w.cell? ⟨B, 0, none⟩ = some (.map (some b))) (hown : w.ownsMap Tryz.prog 9 R b nn D0) (hM : MK z D0 L e0) (hl : L.length ≤ 1000000) :
    Calls Tryz.prog 33 #[.func (.func 59) #[] #[.pointer (some ⟨B, 0, none⟩)]] w fun e w' => ∃ v, e = .returned v ∧
      w'.ownsRow w.heap.size 9 1 v L.length (L.map encStr) ∧ Below w.heap.size w w' := by
  have hbl := hown.lt
  have hsz := hM.size hown Tryz.underlying9
  have hmax : Maps.size D0 ≤ maxLen := by rw [hsz]; unfold maxLen; omega
  have hbytes : Maps.size D0 * 16 ≤ 140737488355328 := by rw [hsz]; omega
  have hseq : SeqGives Fence.wide 2 Tryz.prog 59 #[.pointer (some ⟨B, 0, none⟩)] encStr (fun ss => ss.Perm (strKeys D0)) (Maps.size D0) w :=
    AnyZ.keys_gives (ρ := Tryz.keysW_ren) { Tryz.keysW with } Fence.wide _ trivial rfl (by omega) B b nn D0 _ hB hc hown
  refine ((callsIn_wide (n := 5)).1 (AnyZ.sorted_in Tryz.sortedS Fence.wide 5 trivial trivial trivial trivial rfl (by omega) (sortsS _) (enters_of Tryz.func58 (by kernel_rfl) rfl) 59 #[.pointer (some ⟨B, 0, none⟩)] trivial (enters_of Tryz.func59 (by kernel_rfl) rfl) _ _ hmax hbytes _ hseq)).mono ?_
  rintro e w' ⟨v, ss, rfl, hS, hrow, _, hb⟩
  have hp : ss.mergeSort (fun x y => decide (x ≤ y)) = L := (mergeSort_of_perm (hS.trans (hM.perm hown Tryz.underlying9).symm)).trans (sorts_merge hM.sorts)
  have hlen : ss.length = L.length := by rw [← hp, List.length_mergeSort]
  rw [hp, hlen] at hrow
  exact ⟨v, rfl, hrow, hb⟩
/-- boxes' cells, one behind the other -/
def cellX (z : BoxP × Value) : List Value := [.int .i64 z.1.valid, .int .i64 z.1.next, z.2]
def cellsX (zs : List (BoxP × Value)) : List Value := zs.flatMap cellX
theorem cellsX_len : ∀ zs : List (BoxP × Value), (cellsX zs).length = zs.length * 3
  | [] => rfl
  | z :: zs => by
    have := cellsX_len zs
    show (cellX z ++ cellsX zs).length = _
    rw [List.length_append, this]
    show 3 + _ = (zs.length + 1) * 3
    omega
theorem cellsX_app (a b : List (BoxP × Value)) : cellsX (a ++ b) = cellsX a ++ cellsX b := by unfold cellsX; rw [List.flatMap_append]
theorem cellsX_at : ∀ (zs : List (BoxP × Value)) (j : Nat) (z : BoxP × Value), zs[j]? = some z → (cellsX zs)[j * 3]? = some (.int .i64 z.1.valid) ∧ (cellsX zs)[j * 3 + 1]? = some (.int .i64 z.1.next) ∧ (cellsX zs)[j * 3 + 2]? = some z.2
  | y :: zs, 0, z, h => by
    cases h
    exact ⟨rfl, rfl, rfl⟩
  | y :: zs, j + 1, z, h => by
    obtain ⟨h1, h2, h3⟩ := cellsX_at zs j z (by simpa using h)
    have e : ∀ i, (cellsX (y :: zs))[i + 3]? = (cellsX zs)[i]? := fun i => by
      show (cellX y ++ cellsX zs)[i + 3]? = _
      rw [List.getElem?_append_right (by show 3 ≤ i + 3; omega)]
      show (cellsX zs)[i + 3 - 3]? = _
      rw [Nat.add_sub_cancel]
    refine ⟨?_, ?_, ?_⟩
    · rw [show (j + 1) * 3 = j * 3 + 3 by omega, e]; exact h1
    · rw [show (j + 1) * 3 + 1 = (j * 3 + 1) + 3 by omega, e]; exact h2
    · rw [show (j + 1) * 3 + 2 = (j * 3 + 2) + 3 by omega, e]; exact h3
/-- a row of boxes, and nothing writes their letters -/
def BRow (N : Nat) (w : World) (v : Value) (bl : List BoxP) : Prop := ∃ ao cap, v = .slice ao bl.length cap ∧ bl.length ≤ cap ∧ ((cap ≤ 9223372036854775807 ∧ (ao = none → cap = 0)) ∧ ∀ B off, ao = some ⟨B, off, none⟩ → ∃ cur fz, w.heap[B]? = some (.cells cur 48 fz)) ∧ ∀ (j : Nat) (b : BoxP), bl[j]? = some b → ∃ B off lv zs, ao = some ⟨B, off, none⟩ ∧ B < w.heap.size ∧
  w.cell? ⟨B, off + j * 3, none⟩ = some (.int .i64 b.valid) ∧ w.cell? ⟨B, off + j * 3 + 1, none⟩ = some (.int .i64 b.next) ∧ w.cell? ⟨B, off + j * 3 + 2, none⟩ = some lv ∧ zs.map (·.1) = b.ls ∧ XRow N w lv zs
theorem BRow.below {N : Nat} {w w' : World} {v : Value} {bl : List BoxP} (h : BRow N w v bl) (hb : Below w.heap.size w w') : BRow N w' v bl := by
  obtain ⟨ao, cap, h1, h2, h3, h4⟩ := h
  refine ⟨ao, cap, h1, h2, ⟨h3.1, fun B off e => let ⟨cur, fz, hh⟩ := h3.2 B off e; ⟨cur, fz, below_same hb hh⟩⟩, fun j b hj => ?_⟩
  obtain ⟨B, off, lv, zs, e1, e2, c0, c1, c2, e3, e4⟩ := h4 j b hj
  have hc := fun i => hb.cell (p := ⟨B, i, none⟩) e2
  exact ⟨B, off, lv, zs, e1, Nat.lt_of_lt_of_le e2 hb.size, (hc _).trans c0, (hc _).trans c1, (hc _).trans c2, e3, e4.below hb⟩
theorem BRow.kept {N : Nat} {w w' : World} {v : Value} {bl : List BoxP} {S : Nat → Prop} (h : BRow N w v bl) (hk : Kept S w w') (hs : Spares N w S) (hno : ∀ k, S k → ∀ cur fz, w.heap[k]? ≠ some (.cells cur 48 fz)) : BRow N w' v bl := by
  obtain ⟨ao, cap, h1, h2, h3, h4⟩ := h
  refine ⟨ao, cap, h1, h2, ⟨h3.1, fun B off e => ?_⟩, fun j b hj => ?_⟩
  · obtain ⟨cur, fz, hh⟩ := h3.2 B off e
    exact ⟨cur, fz, hk.obj hh (fun e => hno B e cur fz hh)⟩
  · obtain ⟨B, off, lv, zs, e1, e2, c0, c1, c2, e3, e4⟩ := h4 j b hj
    obtain ⟨cur, fz, hh⟩ := h3.2 B off e1
    have hc : ∀ i, w'.cell? ⟨B, i, none⟩ = w.cell? ⟨B, i, none⟩ := fun i => World.cell?_of_block (hk.block B e2 (fun e => hno B e cur fz hh))
    exact ⟨B, off, lv, zs, e1, Nat.lt_of_lt_of_le e2 hk.size, (hc _).trans c0, (hc _).trans c1, (hc _).trans c2, e3, e4.kept hk hs⟩
theorem brow_owns {N : Nat} {w : World} {M : Nat} {v : Value} {zs : List (BoxP × Value)} (h : w.ownsRow M 48 3 v zs.length (cellsX zs)) (hs : ∀ z ∈ zs, ∃ xs, xs.map (·.1) = z.1.ls ∧ XRow N w z.2 xs) : BRow N w v (zs.map (·.1)) := by
  rcases h.2 with ⟨rfl, h0⟩ | ⟨g, cap, cur, rfl, hg, hh, h3, h4, h5, h6⟩
  · obtain rfl : zs = [] := List.eq_nil_of_length_eq_zero h0
    exact ⟨none, 0, rfl, Nat.le_refl _, ⟨⟨by decide, fun _ => rfl⟩, fun B off e => by cases e⟩, fun j u hj => by simp at hj⟩
  · refine ⟨some ⟨g, 0, none⟩, cap, by rw [List.length_map], by rw [List.length_map]; exact h3, ⟨⟨by unfold maxLen at h4; omega, fun h => by cases h⟩, fun B off e => by cases e; exact ⟨cur, _, hh⟩⟩, fun j b hj => ?_⟩
    rw [List.getElem?_map] at hj
    obtain ⟨z, hz, rfl⟩ := Option.map_eq_some_iff.1 hj
    obtain ⟨xs, hx1, hx2⟩ := hs z (List.mem_of_getElem? hz)
    have hc : ∀ i u, (cellsX zs)[i]? = some u → w.cell? ⟨g, 0 + i, none⟩ = some u := fun i u hu => by
      rw [Nat.zero_add, Lib.cell_of_heap hh]
      rw [← h6, List.getElem?_take] at hu
      split at hu
      · simpa using hu
      · cases hu
    obtain ⟨e1, e2, e3⟩ := cellsX_at zs j z hz
    exact ⟨g, 0, z.2, xs, rfl, (Array.getElem?_eq_some_iff.1 hh).1, hc _ _ e1, hc _ _ e2, hc _ _ e3, hx1, hx2⟩
theorem box_info : (Tryz.prog.info? 48).map (fun i => (i.zero, i.size, i.bytes)) = some (some (.agg #[.int .i64 0, .int .i64 0, .slice none 0 0]), 3, 40) := by kernel_rfl
end Go.Proofs.YtdlfbhbgemoelaaGreatDoor
namespace Go.Proofs.YtdlfbhbgemoelaaGreatDoor
open Go.RowKit Go.Shelf Go.Sort Go.Maps
set_option linter.unusedSimpArgs false

/-- all that a house has, as a value -/
def SavedS (N : Nat) (w : World) (p : HouP) (v : Value) : Prop := ∃ nv bv wv, v = .agg #[nv, bv, wv, .int .i64 p.next] ∧ SRow w nv p.L ∧ BRow N w bv (p.L.map p.c) ∧ SRow w wv p.W
theorem SavedS.below {N : Nat} {w w' : World} {p : HouP} {v : Value} (h : SavedS N w p v) (hb : Below w.heap.size w w') : SavedS N w' p v := by
  obtain ⟨nv, bv, wv, h1, h2, h3, h4⟩ := h
  exact ⟨nv, bv, wv, h1, h2.below hb, h3.below hb, h4.below hb⟩
theorem set_all4 {w : World} {U : Nat} {a b c d : Value} {T : TypeId} (h : w.heap[U]? = some (.cells #[a, b, c, d] T (0, 0))) (x0 x1 x2 x3 : Value) :
    ((((w.setCell ⟨U, 0, none⟩ x0).setCell ⟨U, 1, none⟩ x1).setCell ⟨U, 2, none⟩ x2).setCell ⟨U, 3, none⟩ x3).heap[U]? = some (.cells #[x0, x1, x2, x3] T (0, 0)) := by
  simp only [World.setCell, Array.getElem?_modify, if_pos, h]
  simp
theorem results_row1 {P : Program} {fn : Func} {p : Tmp} {ty : TypeId} (h : fn.results = #[.cell p ty]) (tmps : Array Value) (w : World) (g : Nat) (T : TypeId) (cs : Array Value) (fr : Nat × Nat) (d : TypeDesc)
    (hp : tmps.getD p undef = .pointer (some ⟨g, 0, none⟩)) (hg : w.heap[g]? = some (.cells cs T fr))
    (hu : P.underlying ty = some d) (hd : (match d with | .struct _ | .array _ _ => true | _ => false) = true) (hi : (P.info? ty).map (·.size) = some cs.size) :
    (results fn tmps).run P w = .ok (.agg cs) w := by
  have hp' : tmps[p]?.getD undef = .pointer (some ⟨g, 0, none⟩) := by simpa using hp
  simp [results, h, hp', asAddr, run_loadVar_row w g T ty cs fr d hg hu hd hi]
theorem saved_size : (Tryz.prog.info? 41).map (·.size) = some 4 := by kernel_rfl
/-- a row of texts that nothing writes -/
def XS (N : Nat) (w : World) (v : Value) (l : List Bs) : Prop := SRow w v l ∧ SafeV N w v
theorem XS.kept {N : Nat} {w w' : World} {S : Nat → Prop} {v : Value} {l : List Bs} (h : XS N w v l) (hk : Kept S w w') (hs : Spares N w S) : XS N w' v l := ⟨h.1.kept h.2 hk hs, h.2.kept hk hs⟩
theorem XS.below {N : Nat} {w w' : World} {v : Value} {l : List Bs} (h : XS N w v l) (hb : Below w.heap.size w w') : XS N w' v l := h.kept (kept_below hb) (spares_none N w)
theorem xs_owns {N : Nat} {W : World} {B : Nat} {v : Value} {l : List Bs} (h : W.ownsRow B 9 1 v l.length (l.map encStr)) : XS N W v l := ⟨hsrow_owns h, safe_tag (stag_owns h)⟩
def zeroSv : Obj := .cells #[.slice none 0 0, .slice none 0 0, .slice none 0 0, .int .i64 0] 41
theorem spares_saved {N : Nat} {w : World} {V : Nat} {c : Array Value} {T : TypeId} {fz : Nat × Nat} (h : w.heap[V]? = some (.cells c T fz)) (hN : N ≤ V) (h1 : T ≠ 9) (h2 : T ≠ 76) : Spares N w (fun j => j = V) := fun j _ e => by subst e; exact ⟨hN, not_lettered h h1 h2⟩
theorem own_typed {w : World} {B : Nat} {T : TypeId} {sz n : Nat} {v : Value} {xs : List Value} (h : w.ownsRow B T sz v n xs) {j : Nat} (hj : v.ownBlock = some j) : B ≤ j ∧ ∃ cur fz, w.heap[j]? = some (.cells cur T fz) := by
  rcases h.2 with ⟨rfl, _⟩ | ⟨g, cap, cur, rfl, hg, hh, _⟩
  · simp [Value.ownBlock] at hj
  · simp only [Value.ownBlock, Option.some.injEq] at hj
    subst hj
    exact ⟨hg, cur, _, hh⟩
theorem set4_1 {w : World} {U : Nat} {a b c d u : Value} {T : TypeId} (h : w.heap[U]? = some (.cells #[a, b, c, d] T (0, 0))) : (w.setCell ⟨U, 1, none⟩ u).heap[U]? = some (.cells #[a, u, c, d] T (0, 0)) := by
  simp only [World.setCell, Array.getElem?_modify, if_pos, h]
  simp
/-- Save's state, so many boxes brought over -/
structure SavL (N : Nat) (W0 wr : World) (SB : Nat) (nv wv : Value) (nx : Int) (L W : List Bs) (c : Bs → BoxP) (k : Nat) (bv : Value) (zs : List (BoxP × Value)) : Prop where
  sb : wr.heap[SB]? = some (.cells #[nv, bv, wv, .int .i64 nx] 41 (0, 0))
  nv : XS N wr nv L
  wv : XS N wr wv W
  own : wr.ownsRow W0.heap.size 48 3 bv zs.length (cellsX zs)
  are : zs.map (·.1) = (L.take k).map c
  row : ∀ z ∈ zs, ∃ xs, xs.map (·.1) = z.1.ls ∧ XRow N wr z.2 xs
  bel : Below W0.heap.size W0 wr
theorem SavL.step {N : Nat} {W0 wr : World} {SB : Nat} {nv wv : Value} {nx : Int} {L W : List Bs} {c : Bs → BoxP} {k : Nat} {bv : Value} {zs : List (BoxP × Value)} (h : SavL N W0 wr SB nv wv nx L W c k bv zs) (hNW : N ≤ W0.heap.size) (hSB : W0.heap.size ≤ SB)
    {x : Bs} (hx : L[k]? = some x) {lv v' bv' : Value} {xs : List (Let × Value)} (hxs : xs.map (·.1) = (c x).ls) (hxr : XRow N wr lv xs) {w5 w6 w7 w8 : World} (h5 : wr.alloc (.cells #[.int .i64 (c x).valid, .int .i64 (c x).next, lv] 48) = w5) (h6 : Below w5.heap.size w5 w6)
    (hv' : w6.ownsRow w5.heap.size 76 4 v' xs.length (cellsL xs)) (h7 : w6.setCell ⟨wr.heap.size, 2, none⟩ v' = w7) {o : Obj} (g : (w7.alloc o).grownBy w8 bv.ownBlock) (ho : w8.ownsRow W0.heap.size 48 3 bv' (zs.length + 1) (cellsX zs ++ cellX (c x, v'))) :
    SavL N W0 (w8.setCell ⟨SB, 1, none⟩ bv') SB nv wv nx L W c (k + 1) bv' (zs ++ [(c x, v')]) ∧ (w7.heap[SB]? = some (.cells #[nv, bv, wv, .int .i64 nx] 41 (0, 0)) ∧ w8.heap[SB]? = some (.cells #[nv, bv, wv, .int .i64 nx] 41 (0, 0))) := by
  have hsz := h.bel.size
  have hSl : SB < wr.heap.size := (Array.getElem?_eq_some_iff.1 h.sb).1
  have hk5 : ∀ S, Kept S wr w5 := fun S => h5 ▸ (Kept.refl S wr).alloc _
  have hs5 : wr.heap.size < w5.heap.size := by rw [← h5, alloc_size]; exact Nat.lt_succ_self _
  have hk6 : ∀ S, Kept S wr w6 := fun S => (hk5 S).trans (kept_below h6)
  have x5 : w5.heap[wr.heap.size]? = some (.cells #[.int .i64 (c x).valid, .int .i64 (c x).next, lv] 48 (0, 0)) := h5 ▸ World.heap_alloc_new wr _
  have x6 := below_same h6 x5
  have hS : ∀ j, bv.ownBlock = some j → W0.heap.size ≤ j ∧ ∃ cur fz, wr.heap[j]? = some (.cells cur 48 fz) := fun j hj => own_typed h.own hj
  have hno : ¬ (bv.ownBlock = some SB) := fun e => by
    obtain ⟨_, cur, fz, hh⟩ := hS SB e
    rw [h.sb] at hh
    cases hh
  have hk7 : Kept (fun _ => False) wr (w7.alloc o) := h7 ▸ ((hk6 _).setNew (p := ⟨wr.heap.size, 2, none⟩) (Nat.le_refl _) v').alloc o
  have hk8 : Kept (fun j => bv.ownBlock = some j) wr w8 := (hk7.mono (fun _ _ e => e.elim)).trans (kept_grown g)
  have hk9 : Kept (fun j => j = SB ∨ bv.ownBlock = some j) wr (w8.setCell ⟨SB, 1, none⟩ bv') := Kept.set (S := fun j => j = SB ∨ bv.ownBlock = some j) (hk8.mono (fun _ _ e => Or.inr e)) (p := ⟨SB, 1, none⟩) (fun _ => Or.inl rfl) bv'
  have hsp : Spares N wr (fun j => j = SB ∨ bv.ownBlock = some j) := fun j _ e => by
    rcases e with rfl | e
    · exact ⟨Nat.le_trans hNW hSB, not_lettered h.sb (by decide) (by decide)⟩
    · obtain ⟨h1, cur, fz, hh⟩ := hS j e
      exact ⟨Nat.le_trans hNW h1, not_lettered hh (by decide) (by decide)⟩
  have hb7 : w7.heap[SB]? = some (.cells #[nv, bv, wv, .int .i64 nx] 41 (0, 0)) := by
    rw [← h7]
    exact setCell_same ((hk6 (fun _ => False)).obj h.sb id) (by show SB ≠ wr.heap.size; omega)
  have hb8 : w8.heap[SB]? = some (.cells #[nv, bv, wv, .int .i64 nx] 41 (0, 0)) := hk8.obj h.sb hno
  refine ⟨⟨set4_1 hb8, h.nv.kept hk9 hsp, h.wv.kept hk9 hsp, ?_, ?_, ?_, ?_⟩, hb7, hb8⟩
  · rw [List.length_append, cellsX_app]
    have e : cellsX [(c x, v')] = cellX (c x, v') := by simp [cellsX]
    rw [e]
    refine owns_same ho (fun j o hj hty => ?_)
    obtain ⟨cur, fz, rfl⟩ := hty
    exact setCell_same hj (fun e => by
      have e : j = SB := e
      rw [e, hb8] at hj
      cases hj)
  · rw [List.map_append, h.are, List.take_add_one, hx]
    simp
  · intro z hz
    rcases List.mem_append.1 hz with hz | hz
    · obtain ⟨ys, e1, e2⟩ := h.row z hz
      exact ⟨ys, e1, e2.kept hk9 hsp⟩
    · rw [List.mem_singleton] at hz
      subst hz
      have hxr6 := hxr.kept (hk6 (fun _ => False)) (spares_none N wr)
      have hX6 : XRow N w6 v' xs := ⟨zrow_owns hv' (fun z hz => by obtain ⟨_, _, _, _, _, hf, _⟩ := hxr6.1; exact hf z hz), safe_owns hv', hxr6.2.2⟩
      have hk69 : Kept (fun j => j = wr.heap.size ∨ j = SB ∨ bv.ownBlock = some j) w6 (w8.setCell ⟨SB, 1, none⟩ bv') := by
        have k1 : Kept (fun j => j = wr.heap.size ∨ j = SB ∨ bv.ownBlock = some j) w6 (w7.alloc o) := h7 ▸ (Kept.set (S := fun j => j = wr.heap.size ∨ j = SB ∨ bv.ownBlock = some j) (Kept.refl _ w6) (p := ⟨wr.heap.size, 2, none⟩) (fun _ => Or.inl rfl) v').alloc o
        exact Kept.set (S := fun j => j = wr.heap.size ∨ j = SB ∨ bv.ownBlock = some j) (k1.trans ((kept_grown g).mono (fun _ _ e => Or.inr (Or.inr e)))) (p := ⟨SB, 1, none⟩) (fun _ => Or.inr (Or.inl rfl)) bv'
      refine ⟨xs, hxs, hX6.kept hk69 (fun j _ e => ?_)⟩
      rcases e with rfl | rfl | e
      · exact ⟨by omega, not_lettered x6 (by decide) (by decide)⟩
      · exact ⟨Nat.le_trans hNW hSB, not_lettered ((hk6 (fun _ => False)).obj h.sb id) (by decide) (by decide)⟩
      · obtain ⟨h1, cur, fz, hh⟩ := hS j e
        exact ⟨Nat.le_trans hNW h1, not_lettered ((hk6 (fun _ => False)).obj hh id) (by decide) (by decide)⟩
  · exact h.bel.trans (hk9.below hsz (fun j e => e.elim (fun e => e ▸ hSB) (fun e => (hS j e).1)))
/-- all that a house has, as a value whose rows of texts nothing writes -/
def SavedX (N : Nat) (w : World) (p : HouP) (v : Value) : Prop := ∃ nv bv wv, v = .agg #[nv, bv, wv, .int .i64 p.next] ∧ XS N w nv p.L ∧ BRow N w bv (p.L.map p.c) ∧ XS N w wv p.W
theorem SavL.saved {N : Nat} {W0 wr w' : World} {SB R : Nat} {nv wv : Value} {nx : Int} {L W : List Bs} {c : Bs → BoxP} {k : Nat} {bv : Value} {zs : List (BoxP × Value)} (h : SavL N W0 wr SB nv wv nx L W c k bv zs) (hk : L.length = k) {cs : Array Value} {fz : Nat × Nat} (hR : wr.heap[R]? = some (.cells cs 41 fz)) (hN : N ≤ R) (hK : Kept (fun j => j = R) wr w') :
    XS N w' nv L ∧ BRow N w' bv (L.map c) ∧ XS N w' wv W := by
  have hsp := spares_saved hR hN (by decide) (by decide)
  refine ⟨h.nv.kept hK hsp, ?_, h.wv.kept hK hsp⟩
  have e : L.map c = zs.map (·.1) := by rw [h.are, ← hk, List.take_length]
  rw [e]
  refine brow_owns (M := W0.heap.size) (owns_same h.own (fun j o hj hty => hK.obj hj (fun e => ?_))) (fun z hz => ?_)
  · obtain ⟨cur, f, rfl⟩ := hty
    have e : j = R := e
    rw [e, hR] at hj
    cases hj
  · obtain ⟨xs, e1, e2⟩ := h.row z hz
    exact ⟨xs, e1, e2.kept hK hsp⟩
set_option maxRecDepth 100000 in
set_option maxHeartbeats 8000000 in
theorem hsaveX_any (N H mb mw : Nat) (p : HouP) (w : World) (hh : Hou N w H mb mw p) (hB : InB p 3000000000) (hN : N ≤ w.heap.size) :
    Calls Tryz.prog 11 #[.pointer (some ⟨H, 0, none⟩)] w fun e w' => ∃ v, e = .returned v ∧ SavedX N w' p v ∧ Below w.heap.size w w' := by
  obtain ⟨h, hS, hR⟩ := hh
  have hmL : h.L.length ≤ 1000 := by rw [hR.L]; have := hB.many; omega
  have hmW : h.W.length ≤ 1000 := by rw [hR.W]; have := hB.wants; omega
  obtain ⟨i0, hi, hi0, hi1, hi2⟩ := info_parts box_info
  obtain ⟨W0, hW0⟩ : ∃ W0, w.alloc (.cells #[.slice none 0 0, .slice none 0 0, .slice none 0 0, .int .i64 0] 41) = W0 := ⟨_, rfl⟩
  have y0 : Below w.heap.size w W0 := hW0 ▸ (Below.refl _ _).alloc (Nat.le_refl _) _
  have yr : Below W0.heap.size W0 W0 := Below.refl _ _
  have y : Below W0.heap.size W0 W0.drew := yr.drew
  have z0 : W0.heap[w.heap.size]? = some (.cells #[.slice none 0 0, .slice none 0 0, .slice none 0 0, .int .i64 0] 41 (0, 0)) := hW0 ▸ World.heap_alloc_new w _
  have hs0 : w.heap.size < W0.heap.size := by rw [← hW0, alloc_size]; exact Nat.lt_succ_self _
  have hz : ∀ o, (W0.alloc o).drew.heap[W0.heap.size]? = some o := fun o => World.heap_alloc_new W0 o
  have yw : ∀ {W}, Below W0.heap.size W0 W → Below w.heap.size w W := fun hb => y0.trans (hb.mono y0.size)
  have cNm : ∀ W, Below W0.heap.size W0 W → Calls Tryz.prog 18 #[.pointer (some ⟨H, 0, none⟩)] W fun e w' => ∃ ao cap, e = .returned (.slice ao h.L.length cap) ∧ Hid (XS N w' (.slice ao h.L.length cap) h.L) ∧ Below W.heap.size W w' := fun W hb => (hnames_any N H mb mw h W (hS.below (yw hb)) (by omega)).mono (by
    rintro e w' ⟨v, rfl, hrow, hb⟩
    obtain ⟨ao, cap, rfl⟩ := owns_val hrow
    exact ⟨ao, cap, rfl, xs_owns hrow, hb⟩)
  have cKy : ∀ W, Below W0.heap.size W0 W → Calls Tryz.prog 34 #[.map (some mw)] W fun e w' => ∃ B, e = .returned (.func (.func 59) #[] #[.pointer (some ⟨B, 0, none⟩)]) ∧ Hid (B < w'.heap.size ∧ w'.cell? ⟨B, 0, none⟩ = some (.map (some mw))) ∧ Below W.heap.size W w' := fun W _ => (keysW_any (some mw) W).mono (by
    rintro e w' ⟨rfl, rfl⟩
    exact ⟨W.heap.size, rfl, ⟨by rw [alloc_size]; exact Nat.lt_succ_self _, by rw [Lib.cell_of_heap (World.heap_alloc_new W _)]; rfl⟩, (Below.refl _ _).alloc (Nat.le_refl _) _⟩)
  have cSo : ∀ W B, Below W0.heap.size W0 W → Hid (B < W.heap.size ∧ W.cell? ⟨B, 0, none⟩ = some (.map (some mw))) → Calls Tryz.prog 33 #[.func (.func 59) #[] #[.pointer (some ⟨B, 0, none⟩)]] W fun e w' => ∃ ao cap, e = .returned (.slice ao h.W.length cap) ∧ Hid (XS N w' (.slice ao h.W.length cap) h.W) ∧ Below W.heap.size W w' := fun W B hb hB => by
    obtain ⟨D, hown, hMK⟩ := (hS.below (yw hb)).wants
    refine (sortedW_at B mw _ D _ h.W _ _ W hB.out.1 hB.out.2 hown hMK (by omega)).mono ?_
    rintro e w' ⟨v, rfl, hrow, hb⟩
    obtain ⟨ao, cap, rfl⟩ := owns_val hrow
    exact ⟨ao, cap, rfl, xs_owns hrow, hb⟩
  have hkeep : ∀ W, Below W0.heap.size W0 W → W.cell? ⟨H, 1, none⟩ = some (.map (some mw)) ∧ W.cell? ⟨H, 2, none⟩ = some (.int .i64 h.next) := fun W hb => by
    obtain ⟨_, c1, c2⟩ := three_cells (hS.below (yw hb)).cells
    exact ⟨c1, c2⟩
  have hup : ∀ {W : World} {o : Obj} {B : Nat}, Hid (B < W.heap.size ∧ W.cell? ⟨B, 0, none⟩ = some (.map (some mw))) → Hid (B < (W.alloc o).heap.size ∧ (W.alloc o).cell? ⟨B, 0, none⟩ = some (.map (some mw))) := fun {W o B} h => Lib.hid ⟨by rw [alloc_size]; exact Nat.lt_succ_of_lt h.out.1, (((Below.refl _ W).alloc (Nat.le_refl _) o).cell (p := ⟨B, 0, none⟩) h.out.1).trans h.out.2⟩
  have hrw : ∀ {W W' : World} {v : Value} {l : List Bs}, Hid (XS N W v l) → Below W.heap.size W W' → Hid (XS N W' v l) := fun h hb => Lib.hid (h.out.below hb)
  have hra : ∀ {W : World} {o : Obj} {v : Value} {l : List Bs}, Hid (XS N W v l) → Hid (XS N (W.alloc o) v l) := fun {W o v l} h => Lib.hid (h.out.below ((Below.refl _ W).alloc (Nat.le_refl _) o))
  have HS := Lib.hid hS
  have HR := Lib.hid hR
  have HY0 := Lib.hid y0
  obtain ⟨nx, hnx⟩ : ∃ nx, h.next = nx := ⟨_, rfl⟩
  rw [hnx] at hkeep
  have HNX := Lib.hid hnx
  obtain ⟨M, hM⟩ : ∃ M, h.L.length = M := ⟨_, rfl⟩
  obtain ⟨MW, hMW⟩ : ∃ M, h.W.length = M := ⟨_, rfl⟩
  rw [hM] at cNm hmL
  rw [hMW] at cSo hmW
  have HM := Lib.hid hM
  have HMW := Lib.hid hMW
  have HZ0 := Lib.hid z0
  clear hS hR hnx hM hMW z0 y0
  go_enter Tryz.func11, Tryz.ntmps11
  go_upto_region 1 with fail
  clear hW0
  go_cut [3] (fun s3 wx => ∃ SB na nc wa wc, s3 = .pointer (some ⟨SB, 0, none⟩) ∧ Hid (W0.heap.size ≤ SB ∧ wx.heap[SB]? = some (.cells #[.slice na M nc, .slice none 0 0, .slice wa MW wc, .int .i64 nx] 41 (0, 0)) ∧ XS N wx (.slice na M nc) h.L ∧ XS N wx (.slice wa MW wc) h.W ∧ Below W0.heap.size W0 wx))
  case first =>
    go_region_held3 (fun W => W.cell? ⟨H, 1, none⟩ = some (.map (some mw)) ∧ W.cell? ⟨H, 2, none⟩ = some (.int .i64 nx))
      (first
        | exact hkeep _ y
        | exact hkeep _ (y.alloc y.size _)
        | exact hkeep _ (yr.alloc yr.size _).drew
        | exact hkeep _ ((((y.setCell hx _).setCell hx _).setCell hx _).setCell hx _)
        | exact hkeep _ (((((y.alloc y.size _).setCell y.size _).setCell y.size _).setCell y.size _).setCell y.size _))
      (first
        | (go_at_call 18; with_reducible refine (cNm _ y).mono ?_; rintro e w1 ⟨na, nc, rfl, R1, h1⟩; have y := y.trans (h1.mono y.size))
        | (go_at_call 18; with_reducible refine (cNm _ (yr.alloc yr.size _).drew).mono ?_; rintro e w1 ⟨na, nc, rfl, R1, h1⟩; have x0 := below_same h1 (hz _); have u0 := (four_cells x0).1; have u1 := (four_cells x0).2.1; have u2 := (four_cells x0).2.2.1; have u3 := (four_cells x0).2.2.2; have fz := Lib.frozen_of_heap x0; have hx := yr.size; have y := (yr.alloc yr.size _).drew.trans (h1.mono (yr.alloc yr.size _).drew.size))
        | (go_at_call 34; with_reducible refine (cKy _ y).mono ?_; rintro e w2 ⟨B, rfl, R2, h2⟩; have y := y.trans (h2.mono y.size); have R1 := hrw R1 h2; (try (have x0 := below_same h2 x0; have u0 := (four_cells x0).1; have u1 := (four_cells x0).2.1; have u2 := (four_cells x0).2.2.1; have u3 := (four_cells x0).2.2.2; have fz := Lib.frozen_of_heap x0)))
        | (go_at_call 34; with_reducible refine (cKy _ (y.alloc y.size _)).mono ?_; rintro e w2 ⟨B, rfl, R2, h2⟩; have x0 := below_same h2 (World.heap_alloc_new _ _); have u0 := (four_cells x0).1; have u1 := (four_cells x0).2.1; have u2 := (four_cells x0).2.2.1; have u3 := (four_cells x0).2.2.2; have fz := Lib.frozen_of_heap x0; have R1 := hrw (hra R1) h2; have hx := y.size; have y := (y.alloc y.size _).trans (h2.mono (y.alloc y.size _).size))
        | (go_at_call 33; with_reducible refine (cSo _ _ y R2).mono ?_; rintro e w3 ⟨wa, wc, rfl, R3, h3⟩; have y := y.trans (h3.mono y.size); have R1 := hrw R1 h3; (try (have x0 := below_same h3 x0; have u0 := (four_cells x0).1; have u1 := (four_cells x0).2.1; have u2 := (four_cells x0).2.2.1; have u3 := (four_cells x0).2.2.2; have fz := Lib.frozen_of_heap x0)))
        | (go_at_call 33; with_reducible refine (cSo _ _ (y.alloc y.size _) (hup R2)).mono ?_; rintro e w3 ⟨wa, wc, rfl, R3, h3⟩; have x0 := below_same h3 (World.heap_alloc_new _ _); have u0 := (four_cells x0).1; have u1 := (four_cells x0).2.1; have u2 := (four_cells x0).2.2.1; have u3 := (four_cells x0).2.2.2; have fz := Lib.frozen_of_heap x0; have R1 := hrw (hra R1) h3; have hx := y.size; have y := (y.alloc y.size _).trans (h3.mono (y.alloc y.size _).size)))
    all_goals (go_wp2_with fail; go_meet)
    all_goals first
      | exact ⟨_, na, nc, wa, wc, rfl, y.size, World.heap_alloc_new w3 _, R1.out.below ((Below.refl _ w3).alloc (Nat.le_refl _) _), R3.out.below ((Below.refl _ w3).alloc (Nat.le_refl _) _), y.alloc y.size _⟩
      | exact ⟨_, na, nc, wa, wc, rfl, hx, set_all4 x0 _ _ _ _, R1.out.kept (((((Kept.refl _ w3).setB _).setB _).setB _).setB _) (spares_saved x0 (Nat.le_trans hN (Nat.le_trans (Nat.le_of_lt hs0) hx)) (by decide) (by decide)), R3.out.kept (((((Kept.refl _ w3).setB _).setB _).setB _).setB _) (spares_saved x0 (Nat.le_trans hN (Nat.le_trans (Nat.le_of_lt hs0) hx)) (by decide) (by decide)), (((y.setCell hx _).setCell hx _).setCell hx _).setCell hx _⟩
  case rest =>
    obtain ⟨SB, na, nc, wa, wc, rfl, HC⟩ := hcut
    clear cNm cKy cSo hkeep hup hrw hra hz y yr
    have hSB := HC.out.1
    obtain ⟨d0, _, _, _⟩ := four_cells HC.out.2.1
    have HI0 : Hid (SavL N W0 _ SB (.slice na M nc) (.slice wa MW wc) nx h.L h.W p.c 0 (.slice none 0 0) []) := Lib.hid ⟨HC.out.2.1, HC.out.2.2.1, HC.out.2.2.2.1, ⟨rfl, Or.inl ⟨rfl, rfl⟩⟩, rfl, (fun z hz => by cases hz), HC.out.2.2.2.2⟩
    clear HC
    go_wp2_with fail
    go_loopg [23] M (fun g s23 wr => ∃ (k : Nat) (ba : Option Addr) (bc : Nat) (zs : List (BoxP × Value)), k + g = M ∧ s23 = .int .i64 (k : Int) ∧ zs.length = k ∧ Hid (SavL N W0 wr SB (.slice na M nc) (.slice wa MW wc) nx h.L h.W p.c k (.slice ba k bc) zs))
    case atStart => exact ⟨0, none, 0, [], by omega, rfl, rfl, HI0.out⟩
    case round =>
      obtain ⟨k, ba, bc, zs, hk, rfl, hzl, HI⟩ := hrel
      clear HI0
      have hbel := HY0.out.trans (HI.out.bel.mono HY0.out.size)
      by_cases hlt : k < M
      · obtain ⟨g', rfl⟩ : ∃ g', gk = g' + 1 := ⟨gk - 1, by omega⟩
        have hltL : k < h.L.length := by rw [HM.out]; exact hlt
        obtain ⟨x, hx⟩ : ∃ x, h.L[k]? = some x := ⟨h.L[k], List.getElem?_eq_getElem hltL⟩
        have hxL := List.mem_of_getElem? hx
        obtain ⟨ao, cap, hao, _, _, hcell⟩ := HI.out.nv.1
        obtain ⟨nb, noff, hae, hnb, n0⟩ := hcell k x hx
        obtain rfl : na = some ⟨nb, noff, none⟩ := by
          injection hao with e _ _
          rw [e, hae]
        have hS' := HS.out.below hbel
        have c0 := (three_cells hS'.cells).1
        have hlk := pm_look_yes hS'.boxes (by have := hS'.lenL x hxL; omega) hxL
        obtain ⟨e1, e2, xs, hxs, hxr⟩ := HR.out.cell x hxL
        have hxr := hxr.below hbel
        have hq := (hS'.box x hxL).2
        obtain ⟨la, lc, hlv, _⟩ := hxr.1
        rw [e1, e2, hlv] at hq
        rw [hlv] at hxr
        obtain ⟨q0, q1, q2⟩ := three_cells hq
        obtain ⟨bk, hbk⟩ : ∃ bk, (h.box x).blk = bk := ⟨_, rfl⟩
        rw [hbk] at q0 q1 q2 hlk
        have hbi := hB.box x (by rw [← HR.out.L]; exact hxL)
        have hxl : xs.length ≤ 60 := by rw [← List.length_map (f := (·.1)), hxs]; exact hbi.2
        obtain ⟨w5, hw5⟩ : ∃ w5, wr.alloc (.cells #[.int .i64 (p.c x).valid, .int .i64 (p.c x).next, .slice la xs.length lc] 48) = w5 := ⟨_, rfl⟩
        have b5 : Below wr.heap.size wr w5 := hw5 ▸ (Below.refl _ _).alloc (Nat.le_refl _) _
        have x5 : w5.heap[wr.heap.size]? = some (.cells #[.int .i64 (p.c x).valid, .int .i64 (p.c x).next, .slice la xs.length lc] 48 (0, 0)) := hw5 ▸ World.heap_alloc_new wr _
        have cC : Calls Tryz.prog 35 #[.slice la xs.length lc] w5 fun e w' => ∃ ca cc, e = .returned (.slice ca xs.length cc) ∧ Hid (w'.ownsRow w5.heap.size 76 4 (.slice ca xs.length cc) xs.length (cellsL xs)) ∧ Below w5.heap.size w5 w' := (cloneL_any (.slice la xs.length lc) xs w5 (hxr.1.below b5) (by omega)).mono (by
          rintro e w' ⟨v, rfl, hrow, hb⟩
          obtain ⟨ca, cc, rfl⟩ := owns_val hrow
          exact ⟨ca, cc, rfl, hrow, hb⟩)
        obtain ⟨k0, k1, k2⟩ := three_cells x5
        have hkz : (k : Int) < (M : Int) := by omega
        have hSl : SB < wr.heap.size := (Array.getElem?_eq_some_iff.1 HI.out.sb).1
        have hfacts : ∀ w6 ca cc, Below w5.heap.size w5 w6 → (w6.setCell ⟨wr.heap.size, 2, none⟩ (.slice ca xs.length cc)).heap[wr.heap.size]? = some (.cells #[.int .i64 (p.c x).valid, .int .i64 (p.c x).next, .slice ca xs.length cc] 48 (0, 0)) ∧ w6.frozen? ⟨wr.heap.size, 2, none⟩ = false ∧ w6.cell? ⟨wr.heap.size, 2, none⟩ = some (.slice la xs.length lc) ∧ (w6.setCell ⟨wr.heap.size, 2, none⟩ (.slice ca xs.length cc)).cell? ⟨SB, 1, none⟩ = some (.slice ba k bc) ∧ Hid ((w6.setCell ⟨wr.heap.size, 2, none⟩ (.slice ca xs.length cc)).ownsRow W0.heap.size 48 3 (.slice ba k bc) zs.length (cellsX zs)) ∧ w5.heap.size ≤ w6.heap.size := fun w6 ca cc h6 => by
          have x6 := below_same h6 x5
          have b6 : Below wr.heap.size wr w6 := b5.trans (h6.mono b5.size)
          have b7 : Below wr.heap.size wr (w6.setCell ⟨wr.heap.size, 2, none⟩ (.slice ca xs.length cc)) := b6.setCell (Nat.le_refl _) _
          refine ⟨set3_2 x6, Lib.frozen_of_heap x6 2, (three_cells x6).2.2, (four_cells (below_same b7 HI.out.sb)).2.1, owns_same HI.out.own (fun j o hj _ => below_same b7 hj), h6.size⟩
        have hstep := fun w6 w7 w8 o ca cc bv' (h6 : Below w5.heap.size w5 w6) hv' h7 g (ho : w8.ownsRow W0.heap.size 48 3 bv' (k + 1) (cellsX zs ++ cellX (p.c x, .slice ca xs.length cc))) => HI.out.step (Nat.le_trans hN (Nat.le_of_lt hs0)) hSB (x := x) hx (lv := .slice la xs.length lc) (v' := .slice ca xs.length cc) (bv' := bv') hxs hxr (w6 := w6) (w7 := w7) (w8 := w8) hw5 h6 hv' h7 (o := o) g (by rw [hzl]; exact ho)
        have HX5 := Lib.hid x5
        have HST := Lib.hid hstep
        have HF := Lib.hid hfacts
        have hs5 : w5.heap.size = wr.heap.size + 1 := by rw [← hw5, alloc_size]
        have HS5 := Lib.hid hs5
        obtain ⟨bxv, hbxv⟩ : ∃ v, (p.c x).valid = v := ⟨_, rfl⟩
        obtain ⟨bxn, hbxn⟩ : ∃ v, (p.c x).next = v := ⟨_, rfl⟩
        have HBX := Lib.hid hbxv
        have HBN := Lib.hid hbxn
        rw [hbxv] at q0 k0 hw5
        rw [hbxn] at q1 k1 hw5
        clear hx hxL hcell hxr hxs hlv hq hbi e1 e2 x5 b5 hS' hfacts hstep hs5 hbxv hbxn hao hae
        go_upto_region 7 with (go_at_call 35; with_reducible refine cC.mono ?_; rintro e w6 ⟨ca, cc, rfl, hrow6, h6⟩; obtain ⟨x7, f6, c6, s7, o7, z6⟩ := HF.out w6 ca cc h6)
        obtain ⟨w7, hw7⟩ : ∃ w7, w6.setCell ⟨wr.heap.size, 2, none⟩ (.slice ca xs.length cc) = w7 := ⟨_, rfl⟩
        rw [hw7] at x7 s7 o7 ⊢
        obtain ⟨l0, l1, l2⟩ := three_cells x7
        rw [HBX.out] at l0
        rw [HBN.out] at l1
        have HNEW : Hid (∀ (j : Nat) (v : Value), (cellX (p.c x, .slice ca xs.length cc))[j]? = some v → (w7.alloc (.cells #[.int .i64 bxv, .int .i64 bxn, .slice ca xs.length cc] 48)).cell? ((⟨w7.heap.size, 0, none⟩ : Addr).add j) = some v) := Lib.hid fun j v hj => by
          rw [add_pl, Nat.zero_add, Lib.cell_of_heap (World.heap_alloc_new w7 _), ← HBX.out, ← HBN.out]
          simpa [cellX] using hj
        have H1 : Hid (∀ v ∈ cellX (p.c x, .slice ca xs.length cc), v.oneCell' = true) := Lib.hid fun v hv => by
          simp only [cellX, List.mem_cons, List.not_mem_nil, or_false] at hv
          rcases hv with rfl | rfl | rfl <;> rfl
        have hs7 : w7.heap.size = w6.heap.size := by rw [← hw7, set_size]
        have HS7 := Lib.hid hs7
        have HL := Lib.hid (cellsX_len zs)
        have HW7 := Lib.hid hw7
        have HH6 := Lib.hid h6
        have hBW := HI.out.bel.size
        clear x7 hw7 hs7 f6 c6 k0 k1 k2 q0 q1 q2 h6
        go_wp2_with (at_builtin; go_must (refine wpList_append_own _ rfl _ _ 39 rfl W0.heap.size 48 i0 _ 3 40 Tryz.underlying39 hi hi0 hi1 hi2 rfl (by decide) (.slice ba k bc) zs.length (cellsX zs) rfl (o7.out.alloc _) ⟨w7.heap.size, 0, none⟩ 1 1 (cellX (p.c x, .slice ca xs.length cc)) rfl rfl HNEW.out H1.out ?k1 ?k2 ?k3 ?_))
        case k1 => unfold maxLen; omega
        case k2 => omega
        case k3 => rw [alloc_size, HS7.out]; have := HS5.out; omega
        intro v8 w8 o8 g8 _
        obtain ⟨b8, q8, rfl⟩ := owns_val o8
        have hst := HST.out w6 w7 w8 _ ca cc (.slice b8 (k + 1) q8) HH6.out hrow6.out HW7.out g8 o8
        have f8 := Lib.frozen_of_heap hst.2.2 1
        have s8 := (four_cells hst.2.2).2.1
        have HFIN := Lib.hid hst.1
        clear hst o8 HNEW H1 HST HF
        go_wp2_with fail
        go_roundg g'
        case measure => omega
        case rel => exact ⟨k + 1, b8, q8, zs ++ [(p.c x, .slice ca xs.length cc)], by omega, by go_num, by rw [List.length_append, List.length_singleton, hzl], HFIN⟩
      · obtain rfl : k = M := by omega
        have hfin := HI.out
        obtain ⟨d0, d1, d2, d3⟩ := four_cells hfin.sb
        have zr : wr.heap[w.heap.size]? = some (.cells #[.slice none 0 0, .slice none 0 0, .slice none 0 0, .int .i64 0] 41 (0, 0)) := (hfin.bel.block _ hs0).trans HZ0.out
        have fz := Lib.frozen_of_heap zr
        obtain ⟨r0, r1, r2, r3⟩ := four_cells zr
        have HFIN := Lib.hid hfin
        have HZR := Lib.hid zr
        clear hfin zr
        go_wp2_with fail
        refine bodyPost_ret (results_row1 (P := Tryz.prog) rfl _ _ w.heap.size _ _ _ _ rfl (set_all4 HZR.out _ _ _ _) Tryz.underlying41 rfl saved_size) rfl ?_
        have hfin2 : ∀ w' v, Kept (fun j => j = w.heap.size) wr w' → v = .agg #[.slice na k nc, .slice ba k bc, .slice wa MW wc, .int .i64 nx] → SavedX N w' p v := fun w' v hK e => by
          obtain ⟨a, b, c⟩ := HFIN.out.saved HM.out HZR.out hN hK
          exact ⟨_, _, _, by rw [e, ← HR.out.next, HNX.out], HR.out.L ▸ a, HR.out.L ▸ b, HR.out.W ▸ c⟩
        exact ⟨_, rfl, hfin2 _ _ (by exact ((((Kept.refl _ wr).setB _).setB _).setB _).setB _) rfl, (((hbel.setCell (Nat.le_refl _) _).setCell (Nat.le_refl _) _).setCell (Nat.le_refl _) _).setCell (Nat.le_refl _) _⟩
theorem hsave_any (N H mb mw : Nat) (p : HouP) (w : World) (hh : Hou N w H mb mw p) (hB : InB p 3000000000) (hN : N ≤ w.heap.size) :
    Calls Tryz.prog 11 #[.pointer (some ⟨H, 0, none⟩)] w fun e w' => ∃ v, e = .returned v ∧ SavedS N w' p v ∧ Below w.heap.size w w' := (hsaveX_any N H mb mw p w hh hB hN).mono (by
  rintro e w' ⟨v, rfl, ⟨nv, bv, wv, e1, h1, h2, h3⟩, hb⟩
  exact ⟨v, rfl, ⟨nv, bv, wv, e1, h1.1, h2, h3.1⟩, hb⟩)
end Go.Proofs.YtdlfbhbgemoelaaGreatDoor
