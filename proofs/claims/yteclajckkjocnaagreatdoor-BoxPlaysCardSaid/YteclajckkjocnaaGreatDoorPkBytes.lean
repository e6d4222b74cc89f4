/- Small laws of my own for the walks, over any program: an append of one element, a slice that reads as a list, what stays below. No condition beyond those each names. What stays as it was: builders, owned rows, single blocks, over any program. No condition beyond those each names. Texts as lists of bytes; blocks at hand. No condition beyond those each names. A block that holds bytes, as a string's conversion lays it; a row that is mapped place by place. No condition beyond those each names. -/
import Derived.WalkKit
import Derived.WalkSpells
import Derived.WalkLawsBesides
import Derived.Laws.BitsAllLaws
import Derived.Deep.LoopGhost
import Derived.Lib.Hide
import Derived.Lib.FrozenHead2
import Derived.Lib.ConvBytes
import Derived.Lib.Strings
import Derived.Test.YteclajckkjocnaaGreatDoorRows
namespace Go.Proofs.YteclajckkjocnaaGreatDoor
open Go.RowKit
set_option linter.unusedSimpArgs false
/-- a slice value that reads as a list of values -/
def RowAt (w : World) (v : Value) (xs : List Value) : Prop :=
  (v = .slice none 0 0 ∧ xs = []) ∨ ∃ b off cap, v = .slice (some ⟨b, off, none⟩) xs.length cap ∧ b < w.heap.size ∧ ∀ j u, xs[j]? = some u → w.cell? ⟨b, off + j, none⟩ = some u
theorem rowAt_of_owns {w : World} {B : Nat} {e : TypeId} {v : Value} {n : Nat} {xs : List Value} (h : w.ownsRow B e 1 v n xs) : RowAt w v xs := by
  obtain ⟨h1, h2⟩ := h
  rcases h2 with ⟨rfl, h0⟩ | ⟨g, cap, cur, rfl, hg, hh, h3, h4, h5, h6⟩
  · left; refine ⟨rfl, ?_⟩; apply List.eq_nil_of_length_eq_zero; omega
  · right
    refine ⟨g, 0, cap, ?_, (Array.getElem?_eq_some_iff.1 hh).1, ?_⟩
    · simp at h1; rw [h1]
    · intro j u hj
      rw [Nat.zero_add, Lib.cell_of_heap hh]
      rw [← h6] at hj
      have := List.getElem?_take (l := cur.toList) (i := n * 1) (j := j)
      rw [this] at hj
      split at hj
      · simpa using hj
      · cases hj
theorem RowAt.mono {w w' : World} {v : Value} {xs : List Value} (h : RowAt w v xs) (hb : Below w.heap.size w w') : RowAt w' v xs := by
  rcases h with h | ⟨b, off, cap, rfl, hlt, hc⟩
  · exact Or.inl h
  · exact Or.inr ⟨b, off, cap, rfl, Nat.lt_of_lt_of_le hlt hb.size, fun j u hj => (hb.cell (p := ⟨b, off + j, none⟩) hlt).trans (hc j u hj)⟩
section
variable {P : Program} {ops : Array Oper} {rest : List Oper} {o : Oper} {a : Act} {Q : Exit → Act → World → Prop}
/-- append(v, x), v owned, x one cell in a new block -/
theorem wpList_app1 (hgd : o.guard = none) (s x : Operand) (t : TypeId) (ho : o.op = .call { callee := .builtin .append, args := #[s, x], argTypes := #[t, t] })
    (e : TypeId) {z : Value} {bytes : Nat} (ht : P.underlying t = some (.slice e)) (hinfo : (P.info? e).map (fun i => (i.zero, i.size, i.bytes)) = some (some z, 1, bytes)) (hzs : z.cells.size = 1)
    (base : Nat) (v : Value) (n : Nat) (xs : List Value) (w : World) (hs : a.eval s = v) (hown : w.ownsRow base e 1 v n xs)
    (y : Value) (hx : a.eval x = .slice (some ⟨w.heap.size, 0, none⟩) 1 1) (h1 : y.oneCell' = true)
    (hn : n + 1 ≤ 4294967296) (hb : bytes ≤ 64) (hbase : base ≤ w.heap.size)
    (h : ∀ v' w', w'.ownsRow base e 1 v' (n + 1) (xs ++ [y]) → (w.alloc (.cells #[y] e)).grownBy w' v.ownBlock → v' ≠ .slice none 0 0 → wpList P ops Q rest (a.put o.dst v') w') : wpList P ops Q (o :: rest) a (w.alloc (.cells #[y] e)) := by
  obtain ⟨i0, hi, hz0, hz1, hz2⟩ := info_parts hinfo
  refine wpList_append_own _ hgd s x t ho base e i0 z 1 bytes ht hi hz0 hz1 hz2 hzs (by decide) v n xs hs (hown.alloc _) ⟨w.heap.size, 0, none⟩ 1 1 [y] hx rfl ?_ ?_ ?_ ?_ ?_ ?_
  · intro j u hj
    match j, hj with
    | 0, hj => simp at hj; subst hj; simp [Addr.add]
  · intro u hu; simp at hu; subst hu; exact h1
  · unfold maxLen; omega
  · have : (n + 1) * bytes ≤ 4294967296 * 64 := Nat.mul_le_mul hn hb
    omega
  · simp; omega
  · intro v' w' k1 k2 k3
    refine h v' w' k1 k2 ?_
    intro hv
    have := (k3.1 hv).2
    omega
end
theorem below_app {B : Nat} {a w w' : World} {e : TypeId} {n : Nat} {xs : List Value} {v : Value} {o : Obj} (h : Below B a w) (hB : B ≤ w.heap.size) (hown : w.ownsRow B e 1 v n xs) (hg : (w.alloc o).grownBy w' v.ownBlock) : Below B a w' :=
  (h.alloc hB _).grown hg (by simp; omega) (fun k hk => by
    rcases hown.2 with ⟨rfl, _⟩ | ⟨g, cap, cur, rfl, hg', _⟩
    · simp [Value.ownBlock] at hk
    · simp [Value.ownBlock] at hk; omega)
theorem _root_.Go.World.heap_alloc_new (w : World) (o : Obj) : (w.alloc o).heap[w.heap.size]? = some o := by
  show (w.heap.push o)[w.heap.size]? = _
  simp
/-- an append keeps whatever is no row of that element type -/
theorem app_keeps {B : Nat} {w w' : World} {e : TypeId} {n : Nat} {xs : List Value} {v : Value} {o : Obj} {U : Nat} {x : Obj} (hU : w.heap[U]? = some x) (hx : ∀ c fz, x ≠ .cells c e fz) (hown : w.ownsRow B e 1 v n xs) (hg : (w.alloc o).grownBy w' v.ownBlock) : w'.heap[U]? = some x := by
  have h1 : (w.alloc o).heap[U]? = some x := (Lib.alloc_old w o U (Array.getElem?_eq_some_iff.1 hU).1).trans hU
  rw [hg.block U (Array.getElem?_eq_some_iff.1 h1).1 ?_]
  · exact h1
  · intro hk
    rcases hown.2 with ⟨rfl, _⟩ | ⟨g, cap, cur, rfl, _, hgg, _⟩
    · simp [Value.ownBlock] at hk
    · simp [Value.ownBlock] at hk
      subst hk
      rw [hU] at hgg
      exact hx _ _ (Option.some.inj hgg)
/-- string(b) of bytes that read as l -/
theorem run_bytes_text {P : Program} {w : World} {v : Value} {l : List UInt8} (h : RowAt w v (Lib.byteCells l)) (src dst e : TypeId) (hs : P.underlying src = some (.slice e)) (he : P.underlying e = some (.int .u8)) (hd : P.underlying dst = some .string) :
    (convert src dst v).run P w = .ok (.string ⟨l.toArray⟩) w := by
  rcases h with ⟨rfl, h0⟩ | ⟨b, off, cap, rfl, _, hc⟩
  · have : l = [] := by
      cases l with
      | nil => rfl
      | cons x r => simp [Lib.byteCells] at h0
    subst this
    exact run_convert_bytes_nil w src e hs he 0 0 dst hd
  · have e1 : (Lib.byteCells l).length = l.length := Lib.byteCells_length l
    rw [e1]
    refine run_convert_bytes_back w src dst e _ cap l hs he hd ?_
    intro j hj
    have := hc j (.int .u8 (l[j].toNat : Int)) (by simp [Lib.byteCells, List.getElem?_eq_getElem hj])
    have hplain : (⟨b, off, none⟩ : Addr).add j = ⟨b, off + j, none⟩ := by unfold Addr.add; split <;> simp_all
    rw [hplain]; exact this
end Go.Proofs.YteclajckkjocnaaGreatDoor
namespace Go.Proofs.YteclajckkjocnaaGreatDoor
open Go.RowKit
set_option linter.unusedSimpArgs false
/-! ### what stays a builder, an owned row -/
theorem owns_same {w w' : World} {B : Nat} {e : TypeId} {sz : Nat} {v : Value} {n : Nat} {xs : List Value} (h : w.ownsRow B e sz v n xs) (hs : ∀ (k : Nat) (o : Obj), w.heap[k]? = some o → (∃ c fz, o = .cells c e fz) → w'.heap[k]? = some o) : w'.ownsRow B e sz v n xs := by
  obtain ⟨h1, h2⟩ := h
  refine ⟨h1, ?_⟩
  rcases h2 with h2 | ⟨g, cap, cur, hv, hg, hh, r⟩
  · exact Or.inl h2
  · exact Or.inr ⟨g, cap, cur, hv, hg, hs _ _ hh ⟨_, _, rfl⟩, r⟩
/-- all that lay below, untouched, by 'Below' from the heap's end -/
theorem below_same {w w' : World} (h : Below w.heap.size w w') {k : Nat} {o : Obj} (hk : w.heap[k]? = some o) : w'.heap[k]? = some o :=
  (h.block k (Array.getElem?_eq_some_iff.1 hk).1).trans hk
theorem setCell_same {w : World} {a : Addr} {u : Value} {k : Nat} {o : Obj} (hk : w.heap[k]? = some o) (hne : k ≠ a.block) : (w.setCell a u).heap[k]? = some o :=
  (Below.heap_setCell w a u k hne).trans hk
theorem alloc_same {w : World} {x o : Obj} {k : Nat} (hk : w.heap[k]? = some o) : (w.alloc x).heap[k]? = some o :=
  (Lib.alloc_old w x k (Array.getElem?_eq_some_iff.1 hk).1).trans hk
/-- two blocks that hold other things are two -/
theorem ne_of_obj {w : World} {j k : Nat} {x y : Obj} (hj : w.heap[j]? = some x) (hk : w.heap[k]? = some y) (h : x ≠ y) : j ≠ k := by
  rintro rfl
  rw [hj] at hk
  exact h (Option.some.inj hk)
/-- an owned row of another element type stays at an append -/
theorem owns_app {w w' : World} {B B' : Nat} {e e' : TypeId} {sz : Nat} {x v : Value} {m n : Nat} {ys xs : List Value} {o : Obj} (h : w.ownsRow B e sz x m ys) (hown : w.ownsRow B' e' 1 v n xs) (hg : (w.alloc o).grownBy w' v.ownBlock) (he : e ≠ e') : w'.ownsRow B e sz x m ys :=
  owns_same h (fun _ _ hk ho => app_keeps hk (by
    intro c fz h
    obtain ⟨c', fz', ho⟩ := ho
    rw [ho] at h; cases h; exact he rfl) hown hg)
theorem owns_cell {w : World} {B : Nat} {e : TypeId} {g n cap j : Nat} {xs : List Value} {u : Value} (h : w.ownsRow B e 1 (.slice (some ⟨g, 0, none⟩) n cap) n xs) (hj : xs[j]? = some u) : w.cell? ⟨g, j, none⟩ = some u := by
  rcases rowAt_of_owns h with ⟨h1, _⟩ | ⟨b, off, cap', h1, _, hc⟩
  · cases h1
  · have := hc j u hj
    simp only [Value.slice.injEq, Option.some.injEq, Addr.mk.injEq] at h1
    obtain ⟨⟨rfl, rfl, _⟩, _, _⟩ := h1
    rwa [Nat.zero_add] at this
theorem owns_slice {w : World} {B : Nat} {e : TypeId} {v : Value} {n : Nat} {xs : List Value} (h : w.ownsRow B e 1 v n xs) : ∃ ao cap, v = .slice ao n cap ∧ (0 < n → ∃ g, ao = some ⟨g, 0, none⟩) := by
  rcases h.2 with ⟨rfl, rfl⟩ | ⟨g, cap, cur, rfl, _⟩
  · exact ⟨none, 0, rfl, fun h => absurd h (by decide)⟩
  · exact ⟨_, _, rfl, fun _ => ⟨g, rfl⟩⟩
end Go.Proofs.YteclajckkjocnaaGreatDoor
namespace Go.Proofs.YteclajckkjocnaaGreatDoor
open Go.RowKit
set_option linter.unusedSimpArgs false
theorem text_size (l : List UInt8) : (⟨l.toArray⟩ : ByteArray).size = l.length := by simp [ByteArray.size]
theorem text_cat (a b : List UInt8) : (⟨a.toArray⟩ : ByteArray) ++ ⟨b.toArray⟩ = ⟨(a ++ b).toArray⟩ := by
  apply ByteArray.ext; simp
theorem w_empty (l : List UInt8) : (⟨l.toArray⟩ : ByteArray).toList.isEmpty = l.isEmpty := by rw [Lib.toList_data]
theorem two_cells {w : World} {U : Nat} {a b : Value} {t : TypeId} {fz : Nat × Nat} (h : w.heap[U]? = some (.cells #[a, b] t fz)) : w.cell? ⟨U, 0, none⟩ = some a ∧ w.cell? ⟨U, 1, none⟩ = some b :=
  ⟨by rw [Lib.cell_of_heap h]; rfl, by rw [Lib.cell_of_heap h]; rfl⟩
theorem alloc_size (w : World) (o : Obj) : (w.alloc o).heap.size = w.heap.size + 1 := by
  show (w.heap.push o).size = _
  exact Array.size_push _
theorem alloc_at {w : World} {o x : Obj} {k : Nat} (h : w.heap[k]? = some x) : (w.alloc o).heap[k]? = some x := alloc_same h
theorem set_size (w : World) (p : Addr) (u : Value) : (w.setCell p u).heap.size = w.heap.size := by simp [World.setCell]
theorem below_cell {w w' : World} {p : Addr} {v : Value} (hb : Below w.heap.size w w') (h : w.cell? p = some v) : w'.cell? p = some v := by
  have hlt : p.block < w.heap.size := by
    rcases Nat.lt_or_ge p.block w.heap.size with h' | h'
    · exact h'
    · simp [World.cell?, Array.getElem?_eq_none h'] at h
  exact (hb.cell hlt).trans h
theorem below_frozen {w w' : World} {p : Addr} {v : Value} (hb : Below w.heap.size w w') (h : w.cell? p = some v) (hf : w.frozen? p = false) : w'.frozen? p = false := by
  have hlt : p.block < w.heap.size := by
    rcases Nat.lt_or_ge p.block w.heap.size with h' | h'
    · exact h'
    · simp [World.cell?, Array.getElem?_eq_none h'] at h
  have he : w'.heap[p.block]? = w.heap[p.block]? := by
    obtain ⟨o, ho⟩ : ∃ o, w.heap[p.block]? = some o := ⟨w.heap[p.block], Array.getElem?_eq_getElem hlt⟩
    rw [ho, below_same hb ho]
  unfold World.frozen? at hf ⊢
  rw [he]; exact hf
theorem add_pl (b off j : Nat) : (⟨b, off, none⟩ : Addr).add j = ⟨b, off + j, none⟩ := by unfold Addr.add; split <;> simp_all
end Go.Proofs.YteclajckkjocnaaGreatDoor
namespace Go.Proofs.YteclajckkjocnaaGreatDoor
open Go.RowKit
set_option linter.unusedSimpArgs false
/-- a block that holds bytes, as '[]byte(s)' lays it -/
def BytesAt (W : World) (g : Nat) (l : List UInt8) : Prop := ∃ c : Array Value, W.heap[g]? = some (.cells c 5 (c.size, c.size + 1)) ∧ l.length ≤ c.size ∧ ∀ (j : Nat) (x : UInt8), l[j]? = some x → c[j]? = some (Value.int .u8 (x.toNat : Int))
theorem bytesAt_new (w : World) (s : ByteArray) : BytesAt (Lib.bytesWorld w 5 s) w.heap.size s.data.toList := by
  refine ⟨_, Lib.bytesWorld_at_new w _ s, ?_, ?_⟩
  · simp [Lib.bytesCells]
  · intro j x hj
    have hlt : j < s.data.size := by
      have := (List.getElem?_eq_some_iff.1 hj).1
      simpa using this
    unfold Lib.bytesCells
    rw [Array.getElem?_append_left (by simpa using hlt)]
    simp at hj
    simp [hj]
theorem BytesAt.cell {W : World} {g : Nat} {l : List UInt8} (h : BytesAt W g l) {j : Nat} {x : UInt8} (hj : l[j]? = some x) : W.cell? ⟨g, j, none⟩ = some (.int .u8 (x.toNat : Int)) := by
  obtain ⟨c, h1, _, h3⟩ := h
  rw [Lib.cell_of_heap h1]
  exact h3 j x hj
theorem BytesAt.free {W : World} {g : Nat} {l : List UInt8} (h : BytesAt W g l) {j : Nat} (hj : j < l.length) : W.frozen? ⟨g, j, none⟩ = false := by
  obtain ⟨c, h1, h2, _⟩ := h
  simp only [World.frozen?, h1]
  simp; omega
theorem BytesAt.put {W : World} {g : Nat} {l : List UInt8} (h : BytesAt W g l) (j : Nat) (y : UInt8) : BytesAt (W.setCell ⟨g, j, none⟩ (.int .u8 (y.toNat : Int))) g (l.set j y) := by
  obtain ⟨c, h1, h2, h3⟩ := h
  refine ⟨c.setIfInBounds j (.int .u8 (y.toNat : Int)), ?_, ?_, ?_⟩
  · rw [setCell_eq_setRow W g j c _ _ _ h1]
    simpa using setRow_heap W g c _ _ _ h1
  · simpa using h2
  · intro i x hi
    rw [List.getElem?_set] at hi
    rw [Array.getElem?_setIfInBounds]
    split at hi
    · subst j
      rw [if_pos rfl]
      split at hi
      · cases hi; rw [if_pos (by omega)]
      · cases hi
    · rename_i hne
      rw [if_neg hne]
      exact h3 i x hi
theorem BytesAt.row {W : World} {g : Nat} {l : List UInt8} (h : BytesAt W g l) (hlt : g < W.heap.size) (n cap : Nat) (hn : n = l.length) : RowAt W (.slice (some ⟨g, 0, none⟩) n cap) (Lib.byteCells l) := by
  subst hn
  refine Or.inr ⟨g, 0, cap, by rw [Lib.byteCells_length], hlt, ?_⟩
  intro j u hj
  simp [Lib.byteCells] at hj
  obtain ⟨x, hx, rfl⟩ := hj
  rw [Nat.zero_add]
  exact h.cell (by simpa using hx)
theorem bytesWorld_below (w : World) (s : ByteArray) : Below w.heap.size w (Lib.bytesWorld w 5 s) :=
  ⟨rfl, rfl, rfl, by rw [Lib.bytesWorld_size]; omega, fun j hj => Lib.bytesWorld_at_old w _ s j hj⟩
theorem map_step {f : UInt8 → UInt8} {l : List UInt8} {k : Nat} {c : UInt8} (hc : l[k]? = some c) : (l.take (k + 1)).map f ++ l.drop (k + 1) = ((l.take k).map f ++ l.drop k).set k (f c) := by
  have hk : k < l.length := (List.getElem?_eq_some_iff.1 hc).1
  rw [List.take_add_one, hc, List.map_append]
  rw [List.set_append_right _ _ (by simp; omega)]
  simp only [List.length_map, List.length_take, Nat.min_eq_left (Nat.le_of_lt hk), Nat.sub_self, List.append_assoc]
  congr 1
  rw [List.drop_eq_getElem_cons hk, List.set_cons_zero]
  simp
theorem map_same {f : UInt8 → UInt8} {l : List UInt8} {k : Nat} {c : UInt8} (hc : l[k]? = some c) (hf : f c = c) : (l.take (k + 1)).map f ++ l.drop (k + 1) = (l.take k).map f ++ l.drop k := by
  have hk : k < l.length := (List.getElem?_eq_some_iff.1 hc).1
  rw [List.take_add_one, hc, List.map_append, List.drop_eq_getElem_cons hk]
  have : l[k] = c := by rw [List.getElem?_eq_getElem hk] at hc; exact Option.some.inj hc
  simp [hf, this]
theorem map_cell {f : UInt8 → UInt8} {l : List UInt8} {k : Nat} {c : UInt8} (hc : l[k]? = some c) : ((l.take k).map f ++ l.drop k)[k]? = some c := by
  have hk : k < l.length := (List.getElem?_eq_some_iff.1 hc).1
  rw [List.getElem?_append_right (by simp; omega)]
  simp [Nat.min_eq_left (Nat.le_of_lt hk), hc]
end Go.Proofs.YteclajckkjocnaaGreatDoor
