/- The table of a byteStringReplacer: its cells, the list of its keys; what a store and an append leave. No condition beyond those each names. -/
import Derived.Test.YtclelkoefeiloaaGreatDoorOnceD
import Derived.Test.YtclelkoefeiloaaGreatDoorBytes
import Derived.Test.YtclelkoefeiloaaGreatDoorKept
import Derived.Deep.WholeRow
namespace Go.Proofs.YtclelkoefeiloaaGreatDoor
open Go.RowKit Go.Shelf Go.Sort

def repCells (u : Value) : Array Value := ((List.replicate 257 (Value.slice none 0 0)).set 256 u).toArray
theorem zeroRep : Tryz.zeroCells148.toList = List.replicate 257 (Value.slice none 0 0) := by kernel_rfl
theorem repCells_size (u : Value) : (repCells u).size = 257 := by
  unfold repCells
  rw [List.size_toArray, List.length_set, List.length_replicate]
theorem repCells_nil (u : Value) {c : Nat} (h : c < 256) : (repCells u)[c]? = some (.slice none 0 0) := by
  unfold repCells
  rw [List.getElem?_toArray, List.getElem?_set, if_neg (by omega), List.getElem?_replicate, if_pos (by omega)]
theorem repCells_last (u : Value) : (repCells u)[256]? = some u := by
  unfold repCells
  rw [List.getElem?_toArray, List.getElem?_set, if_pos rfl, if_pos (by rw [List.length_replicate]; omega)]
theorem repInfo : (Tryz.prog.info? 148).map (·.size) = some 257 := by kernel_rfl
theorem store_rep (W : World) (u : Value) (h : u.oneCell' = true) :
    (storeCells ⟨W.heap.size, 0, none⟩ (Tryz.zeroCells148.toList.set 256 u) 0).run Tryz.prog (W.alloc (.cells Tryz.zeroCells148 148)) = .ok () (W.alloc (.cells (repCells u) 148)) := by
  have hz : Tryz.zeroCells148.size = 257 := by kernel_rfl
  have := run_storeCells_new (P := Tryz.prog) W 148 Tryz.zeroCells148 (repCells u) (by rw [repCells_size]; exact repInfo) (by rw [repCells_size, hz]) (by
    rw [Array.all_eq_true']
    intro x hx
    unfold repCells at hx
    rw [List.mem_toArray] at hx
    rcases List.mem_or_eq_of_mem_set hx with hx | rfl
    · rw [List.eq_of_mem_replicate hx]; rfl
    · exact h)
  rw [zeroRep]
  exact this

theorem owns_keep {W W' : World} {base : Nat} {e : TypeId} {sz n : Nat} {v : Value} {xs : List Value} (h : W.ownsRow base e sz v n xs) (hb : ∀ g, v.ownBlock = some g → W'.heap[g]? = W.heap[g]?) : W'.ownsRow base e sz v n xs := by
  refine ⟨h.1, ?_⟩
  rcases h.2 with h2 | ⟨g, cap, cur, rfl, a1, a2, a3⟩
  · exact Or.inl h2
  · exact Or.inr ⟨g, cap, cur, rfl, a1, (hb g rfl).trans a2, a3⟩
theorem owns_tag {W : World} {base : Nat} {e : TypeId} {sz n : Nat} {v : Value} {xs : List Value} (h : W.ownsRow base e sz v n xs) {g : Nat} (hg : v.ownBlock = some g) : ∃ cur, W.heap[g]? = some (.cells cur e (0, 0)) := by
  rcases h.2 with ⟨rfl, _⟩ | ⟨g', cap, cur, rfl, _, a2, _⟩
  · cases hg
  · cases hg; exact ⟨cur, a2⟩

/-- a replacement, or none -/
def RepV (W : World) (base : Nat) (u : Option Value) : Option (List UInt8) → Prop
  | none => u = some (.slice none 0 0)
  | some x => ∃ g cap, u = some (.slice (some ⟨g, 0, none⟩) x.length cap) ∧ base ≤ g ∧ g < W.heap.size ∧ x.length ≤ cap ∧ cap ≤ 9223372036854775807 ∧ BytesAt W g x
def keyL (ks : List UInt8) : List (List UInt8) := ks.map fun c => [c]
/-- a byteStringReplacer in block B: its replacements, its keys -/
def RepC (base B : Nat) (W : World) (ps : List (UInt8 × List UInt8)) (ks : List UInt8) : Prop :=
  ∃ cur tv, W.heap[B]? = some (.cells cur 148 (0, 0)) ∧ cur.size = 257 ∧ cur[256]? = some tv ∧ W.ownsRow base 9 1 tv (keyL ks).length ((keyL ks).map encStr) ∧ ∀ c : UInt8, RepV W base cur[c.toNat]? (ps.lookup c)
theorem RepV.keep {W W' : World} {base : Nat} {u : Option Value} {o : Option (List UInt8)} (h : RepV W base u o) (hs : W.heap.size ≤ W'.heap.size) (hb : ∀ (g : Nat) c fz, W.heap[g]? = some (Obj.cells c 5 fz) → W'.heap[g]? = W.heap[g]?) : RepV W' base u o := by
  cases o with
  | none => exact h
  | some x =>
    obtain ⟨g, cap, h1, h2, h3, h4, h5, c, h6, h7⟩ := h
    exact ⟨g, cap, h1, h2, Nat.lt_of_lt_of_le h3 hs, h4, h5, c, (hb g c _ h6).trans h6, h7⟩
theorem RepC.keep {base B : Nat} {W W' : World} {ps : List (UInt8 × List UInt8)} {ks : List UInt8} (h : RepC base B W ps ks) (hb : Below W.heap.size W W') : RepC base B W' ps ks := by
  obtain ⟨cur, tv, h1, h2, h3, h4, h5⟩ := h
  have hk : ∀ (g : Nat) o, W.heap[g]? = some o → W'.heap[g]? = W.heap[g]? := fun g o e => hb.block g (Array.getElem?_eq_some_iff.1 e).1
  refine ⟨cur, tv, (hk _ _ h1).trans h1, h2, h3, owns_keep h4 (fun g hg => ?_), fun c => RepV.keep (h5 c) hb.size (fun g c fz e => hk _ _ e)⟩
  obtain ⟨cur', e⟩ := owns_tag h4 hg
  exact hk _ _ e
theorem RepC.start {base : Nat} {W : World} {tv : Value} (h : W.ownsRow base 9 1 tv 0 []) : RepC base W.heap.size (W.alloc (.cells (repCells tv) 148)) [] [] := by
  refine ⟨_, tv, World.heap_alloc_new W _, repCells_size tv, repCells_last tv, h.alloc _, fun c => ?_⟩
  exact repCells_nil tv c.toNat_lt
theorem RepC.lt {base B : Nat} {W : World} {ps : List (UInt8 × List UInt8)} {ks : List UInt8} (h : RepC base B W ps ks) : B < W.heap.size := by
  obtain ⟨cur, tv, h1, _⟩ := h
  exact (Array.getElem?_eq_some_iff.1 h1).1
theorem RepC.val {base B : Nat} {W : World} {ps : List (UInt8 × List UInt8)} {ks : List UInt8} (h : RepC base B W ps ks) (c : UInt8) : ∃ v, W.cell? ⟨B, c.toNat, none⟩ = some v ∧ RepV W base (some v) (ps.lookup c) := by
  obtain ⟨cur, tv, h1, h2, h3, h4, h5⟩ := h
  have hc := c.toNat_lt
  obtain ⟨v, hv⟩ : ∃ v, cur[c.toNat]? = some v := ⟨cur[c.toNat]'(by omega), Array.getElem?_eq_getElem _⟩
  have := h5 c
  rw [hv] at this
  exact ⟨v, by rw [Lib.cell_of_heap h1]; exact hv, this⟩
theorem RepC.list {base B : Nat} {W : World} {ps : List (UInt8 × List UInt8)} {ks : List UInt8} (h : RepC base B W ps ks) : ∃ tv, W.cell? ⟨B, 256, none⟩ = some tv ∧ W.ownsRow base 9 1 tv (keyL ks).length ((keyL ks).map encStr) := by
  obtain ⟨cur, tv, h1, h2, h3, h4, h5⟩ := h
  exact ⟨tv, by rw [Lib.cell_of_heap h1]; exact h3, h4⟩
theorem RepC.free {base B : Nat} {W : World} {ps : List (UInt8 × List UInt8)} {ks : List UInt8} (h : RepC base B W ps ks) (j : Nat) : W.frozen? ⟨B, j, none⟩ = false := by
  obtain ⟨cur, tv, h1, h2, h3, h4, h5⟩ := h
  simp [World.frozen?, h1]
theorem RepC.same {base B : Nat} {W W1 : World} {ps : List (UInt8 × List UInt8)} {ks : List UInt8} {tv : Value} (h : RepC base B W ps ks) (ht : W.cell? ⟨B, 256, none⟩ = some tv) (hg : W.grownBy W1 tv.ownBlock) : W1.cell? ⟨B, 256, none⟩ = some tv ∧ W1.frozen? ⟨B, 256, none⟩ = false := by
  obtain ⟨cur, tv0, h1, h2, h3, h4, h5⟩ := h
  obtain rfl : tv0 = tv := by
    rw [Lib.cell_of_heap h1] at ht
    exact Option.some.inj (h3.symm.trans ht)
  have hB : W1.heap[B]? = some (Obj.cells cur 148 (0, 0)) := (hg.block B (Array.getElem?_eq_some_iff.1 h1).1 (fun e2 => by
    obtain ⟨cur', e3⟩ := owns_tag h4 e2.symm
    rw [h1] at e3
    cases e3)).trans h1
  exact ⟨by rw [Lib.cell_of_heap hB]; exact h3, by simp [World.frozen?, hB]⟩
theorem keyL_snoc (ks : List UInt8) (c : UInt8) : keyL (ks ++ [c]) = keyL ks ++ [[c]] := by simp [keyL]
theorem RepC.grow {base B : Nat} {W W1 : World} {ps : List (UInt8 × List UInt8)} {ks : List UInt8} {tv tv' : Value} {c : UInt8} (h : RepC base B W ps ks) (ht : W.cell? ⟨B, 256, none⟩ = some tv) (hg : W.grownBy W1 tv.ownBlock)
    (ho : W1.ownsRow base 9 1 tv' (keyL (ks ++ [c])).length ((keyL (ks ++ [c])).map encStr)) : RepC base B (W1.setCell ⟨B, 256, none⟩ tv') ps (ks ++ [c]) := by
  obtain ⟨cur, tv0, h1, h2, h3, h4, h5⟩ := h
  obtain rfl : tv0 = tv := by
    rw [Lib.cell_of_heap h1] at ht
    exact Option.some.inj (h3.symm.trans ht)
  have hk : ∀ (g : Nat) cu t fz, W.heap[g]? = some (Obj.cells cu t fz) → t ≠ 9 → W1.heap[g]? = W.heap[g]? := fun g cu t fz e hne => hg.block g (Array.getElem?_eq_some_iff.1 e).1 (fun e2 => by
    obtain ⟨cur', e3⟩ := owns_tag h4 e2.symm
    rw [e] at e3
    cases e3
    exact hne rfl)
  have hB := (hk _ _ _ _ h1 (by decide)).trans h1
  have hset : (W1.setCell ⟨B, 256, none⟩ tv').heap[B]? = some (.cells (cur.setIfInBounds 256 tv') 148 (0, 0)) := by
    rw [setCell_eq_setRow W1 B 256 cur _ _ _ hB]
    simpa using setRow_heap W1 B cur _ _ _ hB
  refine ⟨_, tv', hset, by simpa using h2, by rw [Array.getElem?_setIfInBounds, if_pos rfl, if_pos (by omega)], owns_keep ho (fun g e => ?_), fun c' => ?_⟩
  · refine Below.heap_setCell W1 _ _ g (fun e2 => ?_)
    have e2' : g = B := e2
    subst e2'
    obtain ⟨cur', e3⟩ := owns_tag ho e
    rw [hB] at e3
    cases e3
  · have hc := c'.toNat_lt
    rw [Array.getElem?_setIfInBounds, if_neg (by omega)]
    refine RepV.keep (h5 c') (by rw [set_size]; exact hg.size) (fun g cu fz e => ?_)
    refine (Below.heap_setCell W1 _ _ g (fun e2 => ?_)).trans (hk _ _ _ _ e (by decide))
    have e2' : g = B := e2
    subst e2'
    rw [h1] at e
    cases e
theorem RepC.put {base B : Nat} {W : World} {ps : List (UInt8 × List UInt8)} {ks : List UInt8} {c : UInt8} {x : List UInt8} {g cap : Nat} (h : RepC base B W ps ks) (hg : base ≤ g) (hl : g < W.heap.size) (h1' : x.length ≤ cap) (h2' : cap ≤ 9223372036854775807) (hx : BytesAt W g x) :
    RepC base B (W.setCell ⟨B, c.toNat, none⟩ (.slice (some ⟨g, 0, none⟩) x.length cap)) ((c, x) :: ps) ks := by
  obtain ⟨cur, tv, h1, h2, h3, h4, h5⟩ := h
  have hc := c.toNat_lt
  have hset : (W.setCell ⟨B, c.toNat, none⟩ (.slice (some ⟨g, 0, none⟩) x.length cap)).heap[B]? = some (.cells (cur.setIfInBounds c.toNat (.slice (some ⟨g, 0, none⟩) x.length cap)) 148 (0, 0)) := by
    rw [setCell_eq_setRow W B c.toNat cur _ _ _ h1]
    simpa using setRow_heap W B cur _ _ _ h1
  have hk : ∀ (g : Nat) cu t fz, W.heap[g]? = some (Obj.cells cu t fz) → t ≠ 148 → (W.setCell ⟨B, c.toNat, none⟩ (.slice (some ⟨g, 0, none⟩) x.length cap)).heap[g]? = W.heap[g]? := fun g' cu t fz e hne => Below.heap_setCell W _ _ g' (fun e2 => by
    have e2' : g' = B := e2
    subst e2'
    rw [h1] at e
    cases e
    exact hne rfl)
  have hk2 : ∀ (g' : Nat) cu t fz, W.heap[g']? = some (Obj.cells cu t fz) → t ≠ 148 → (W.setCell ⟨B, c.toNat, none⟩ (.slice (some ⟨g, 0, none⟩) x.length cap)).heap[g']? = W.heap[g']? := fun g' cu t fz e hne => Below.heap_setCell W _ _ g' (fun e2 => by
    have e2' : g' = B := e2
    subst e2'
    rw [h1] at e
    cases e
    exact hne rfl)
  refine ⟨_, tv, hset, by simpa using h2, by rw [Array.getElem?_setIfInBounds, if_neg (by omega)]; exact h3, owns_keep h4 (fun g' e => ?_), fun c' => ?_⟩
  · obtain ⟨cur', e3⟩ := owns_tag h4 e
    exact hk2 _ _ _ _ e3 (by decide)
  · rw [Array.getElem?_setIfInBounds]
    by_cases e : c = c'
    · subst e
      rw [if_pos rfl, if_pos (by omega), List.lookup_cons_self]
      obtain ⟨cx, hx1, hx2⟩ := hx
      exact ⟨g, cap, rfl, hg, by rw [set_size]; exact hl, h1', h2', cx, (hk2 _ _ _ _ hx1 (by decide)).trans hx1, hx2⟩
    · have hne : c.toNat ≠ c'.toNat := fun e2 => e (UInt8.toNat_inj.1 e2)
      rw [if_neg hne, List.lookup_cons, show (c' == c) = false from by simpa using fun e2 => e e2.symm]
      exact RepV.keep (h5 c') (by rw [set_size]; exact Nat.le_refl _) (fun g' cu fz e => hk2 _ _ _ _ e (by decide))
end Go.Proofs.YtclelkoefeiloaaGreatDoor
