/- Small laws of my own for the walks, over any program: an append of one element, a slice that reads as a list, what stays below. No condition beyond those each names. What stays as it was: builders, owned rows, single blocks, over any program. No condition beyond those each names. -/
import Derived.WalkKit
import Derived.WalkSpells
import Derived.WalkLawsBesides
import Derived.Laws.BitsAllLaws
import Derived.Deep.LoopGhost
import Derived.Lib.Hide
import Derived.Lib.FrozenHead2
namespace Go.Proofs.YtdlfbhbgemoelaaGreatDoor
open Go.RowKit

/-- a slice value that reads as a list of values -/
def RowAt (w : World) (v : Value) (xs : List Value) : Prop :=
  (v = .slice none 0 0 ∧ xs = []) ∨ ∃ b off cap, v = .slice (some ⟨b, off, none⟩) xs.length cap ∧ b < w.heap.size ∧ ∀ j u, xs[j]? = some u → w.cell? ⟨b, off + j, none⟩ = some u

theorem rowAt_of_owns {w : World} {B : Nat} {e : TypeId} {v : Value} {n : Nat} {xs : List Value} (h : w.ownsRow B e 1 v n xs) : RowAt w v xs := by
  obtain ⟨h1, h2⟩ := h
  rcases h2 with ⟨rfl, h0⟩ | ⟨g, cap, cur, rfl, hg, hh, h3, h4, h5, h6⟩
  · left; refine ⟨rfl, ?_⟩; apply List.eq_nil_of_length_eq_zero; omega
  · right
    refine ⟨g, 0, cap, ?_, (Array.getElem?_eq_some_iff.1 hh).1, ?_⟩
    · simp at h1; rw [h1]
    · intro j u hj
      rw [Nat.zero_add, Lib.cell_of_heap hh]
      rw [← h6] at hj
      have := List.getElem?_take (l := cur.toList) (i := n * 1) (j := j)
      rw [this] at hj
      split at hj
      · simpa using hj
      · cases hj
theorem RowAt.mono {w w' : World} {v : Value} {xs : List Value} (h : RowAt w v xs) (hb : Below w.heap.size w w') : RowAt w' v xs := by
  rcases h with h | ⟨b, off, cap, rfl, hlt, hc⟩
  · exact Or.inl h
  · exact Or.inr ⟨b, off, cap, rfl, Nat.lt_of_lt_of_le hlt hb.size, fun j u hj => (hb.cell (p := ⟨b, off + j, none⟩) hlt).trans (hc j u hj)⟩

section
variable {P : Program} {ops : Array Oper} {rest : List Oper} {o : Oper} {a : Act} {Q : Exit → Act → World → Prop}
/-- append(v, x), v owned, x one cell in a new block -/
theorem wpList_app1 (hgd : o.guard = none) (s x : Operand) (t : TypeId) (ho : o.op = .call { callee := .builtin .append, args := #[s, x], argTypes := #[t, t] })
    (e : TypeId) {z : Value} {bytes : Nat} (ht : P.underlying t = some (.slice e)) (hinfo : (P.info? e).map (fun i => (i.zero, i.size, i.bytes)) = some (some z, 1, bytes)) (hzs : z.cells.size = 1)
    (base : Nat) (v : Value) (n : Nat) (xs : List Value) (w : World) (hs : a.eval s = v) (hown : w.ownsRow base e 1 v n xs)
    (y : Value) (hx : a.eval x = .slice (some ⟨w.heap.size, 0, none⟩) 1 1) (h1 : y.oneCell' = true)
    (hn : n + 1 ≤ 4294967296) (hb : bytes ≤ 64) (hbase : base ≤ w.heap.size)
    (h : ∀ v' w', w'.ownsRow base e 1 v' (n + 1) (xs ++ [y]) → (w.alloc (.cells #[y] e)).grownBy w' v.ownBlock → v' ≠ .slice none 0 0 → wpList P ops Q rest (a.put o.dst v') w') : wpList P ops Q (o :: rest) a (w.alloc (.cells #[y] e)) := by
  obtain ⟨i0, hi, hz0, hz1, hz2⟩ := info_parts hinfo
  refine wpList_append_own _ hgd s x t ho base e i0 z 1 bytes ht hi hz0 hz1 hz2 hzs (by decide) v n xs hs (hown.alloc _) ⟨w.heap.size, 0, none⟩ 1 1 [y] hx rfl ?_ ?_ ?_ ?_ ?_ ?_
  · intro j u hj
    match j, hj with
    | 0, hj => simp at hj; subst hj; simp [Addr.add]
  · intro u hu; simp at hu; subst hu; exact h1
  · unfold maxLen; omega
  · have : (n + 1) * bytes ≤ 4294967296 * 64 := Nat.mul_le_mul hn hb
    omega
  · simp; omega
  · intro v' w' k1 k2 k3
    refine h v' w' k1 k2 ?_
    intro hv
    have := (k3.1 hv).2
    omega
end

theorem below_app {B : Nat} {a w w' : World} {e : TypeId} {n : Nat} {xs : List Value} {v : Value} {o : Obj} (h : Below B a w) (hB : B ≤ w.heap.size) (hown : w.ownsRow B e 1 v n xs) (hg : (w.alloc o).grownBy w' v.ownBlock) : Below B a w' :=
  (h.alloc hB _).grown hg (by simp; omega) (fun k hk => by
    rcases hown.2 with ⟨rfl, _⟩ | ⟨g, cap, cur, rfl, hg', _⟩
    · simp [Value.ownBlock] at hk
    · simp [Value.ownBlock] at hk; omega)

theorem _root_.Go.World.heap_alloc_new (w : World) (o : Obj) : (w.alloc o).heap[w.heap.size]? = some o := by
  show (w.heap.push o)[w.heap.size]? = _
  simp

/-- an append keeps whatever is no row of that element type -/
theorem app_keeps {B : Nat} {w w' : World} {e : TypeId} {n : Nat} {xs : List Value} {v : Value} {o : Obj} {U : Nat} {x : Obj} (hU : w.heap[U]? = some x) (hx : ∀ c fz, x ≠ .cells c e fz) (hown : w.ownsRow B e 1 v n xs) (hg : (w.alloc o).grownBy w' v.ownBlock) : w'.heap[U]? = some x := by
  have h1 : (w.alloc o).heap[U]? = some x := (Lib.alloc_old w o U (Array.getElem?_eq_some_iff.1 hU).1).trans hU
  rw [hg.block U (Array.getElem?_eq_some_iff.1 h1).1 ?_]
  · exact h1
  · intro hk
    rcases hown.2 with ⟨rfl, _⟩ | ⟨g, cap, cur, rfl, _, hgg, _⟩
    · simp [Value.ownBlock] at hk
    · simp [Value.ownBlock] at hk
      subst hk
      rw [hU] at hgg
      exact hx _ _ (Option.some.inj hgg)

/-- string(b) of bytes that read as l -/
theorem run_bytes_text {P : Program} {w : World} {v : Value} {l : List UInt8} (h : RowAt w v (Lib.byteCells l)) (src dst e : TypeId) (hs : P.underlying src = some (.slice e)) (he : P.underlying e = some (.int .u8)) (hd : P.underlying dst = some .string) :
    (convert src dst v).run P w = .ok (.string ⟨l.toArray⟩) w := by
  rcases h with ⟨rfl, h0⟩ | ⟨b, off, cap, rfl, _, hc⟩
  · have : l = [] := by
      cases l with
      | nil => rfl
      | cons x r => simp [Lib.byteCells] at h0
    subst this
    exact run_convert_bytes_nil w src e hs he 0 0 dst hd
  · have e1 : (Lib.byteCells l).length = l.length := Lib.byteCells_length l
    rw [e1]
    refine run_convert_bytes_back w src dst e _ cap l hs he hd ?_
    intro j hj
    have := hc j (.int .u8 (l[j].toNat : Int)) (by simp [Lib.byteCells, List.getElem?_eq_getElem hj])
    have hplain : (⟨b, off, none⟩ : Addr).add j = ⟨b, off + j, none⟩ := by unfold Addr.add; split <;> simp_all
    rw [hplain]; exact this

theorem i32_and_nat (a b : Nat) (ha : a < 2147483648) (hb : b < 2147483648) : bits .and .i32 (a : Int) (b : Int) = ((a &&& b : Nat) : Int) := by
  have hx : a &&& b < 2 ^ 31 := Nat.and_lt_two_pow _ (by omega)
  show IntKind.i32.wrap ((BitVec.ofInt 32 (a : Int) &&& BitVec.ofInt 32 (b : Int)).toNat : Int) = _
  rw [BitVec.toNat_and, ofInt_u32 a (by omega), ofInt_u32 b (by omega), IntKind.wrap_i32]
  omega
theorem or_add (k x y : Nat) (hy : y < 2 ^ k) : (x * 2 ^ k) ||| y = x * 2 ^ k + y := nat_join k _ _ (Nat.mul_mod_left _ _) hy
end Go.Proofs.YtdlfbhbgemoelaaGreatDoor
namespace Go.Proofs.YtdlfbhbgemoelaaGreatDoor
open Go.RowKit

/-! ### what stays a builder, an owned row -/
theorem owns_same {w w' : World} {B : Nat} {e : TypeId} {sz : Nat} {v : Value} {n : Nat} {xs : List Value} (h : w.ownsRow B e sz v n xs) (hs : ∀ (k : Nat) (o : Obj), w.heap[k]? = some o → (∃ c fz, o = .cells c e fz) → w'.heap[k]? = some o) : w'.ownsRow B e sz v n xs := by
  obtain ⟨h1, h2⟩ := h
  refine ⟨h1, ?_⟩
  rcases h2 with h2 | ⟨g, cap, cur, hv, hg, hh, r⟩
  · exact Or.inl h2
  · exact Or.inr ⟨g, cap, cur, hv, hg, hs _ _ hh ⟨_, _, rfl⟩, r⟩
theorem ownsF_same {w w' : World} {B : Nat} {e : TypeId} {sz : Nat} {v : Value} {n : Nat} {xs : List Value} (h : w.ownsRowF B e sz v n xs) (hs : ∀ (k : Nat) (o : Obj), w.heap[k]? = some o → (∃ c fz, o = .cells c e fz) → w'.heap[k]? = some o) : w'.ownsRowF B e sz v n xs := by
  obtain ⟨h1, h2⟩ := h
  refine ⟨h1, ?_⟩
  rcases h2 with h2 | ⟨g, cap, cur, fz, hv, hg, hh, r⟩
  · exact Or.inl h2
  · exact Or.inr ⟨g, cap, cur, fz, hv, hg, hs _ _ hh ⟨_, _, rfl⟩, r⟩
theorem bldAt_same {T e : TypeId} {B b : Nat} {p : Value} {bs : List Value} {w w' : World} (h : Lib.BuilderAtF T e B b p bs w) (hs : ∀ (k : Nat) (o : Obj), w.heap[k]? = some o → (k = b ∨ ∃ c fz, o = .cells c e fz) → w'.heap[k]? = some o) : Lib.BuilderAtF T e B b p bs w' := by
  obtain ⟨hB, v, hb, hown, hne⟩ := h
  exact ⟨hB, v, hs _ _ hb (Or.inl rfl), ownsF_same hown (fun k o hk ho => hs k o hk (Or.inr ho)), hne⟩
theorem bld_same {T e : TypeId} {B b : Nat} {bs : List Value} {w w' : World} (h : Lib.IsBuilderF T e B b bs w) (hs : ∀ (k : Nat) (o : Obj), w.heap[k]? = some o → (k = b ∨ ∃ c fz, o = .cells c e fz) → w'.heap[k]? = some o) : Lib.IsBuilderF T e B b bs w' :=
  h.elim (fun h => Or.inl (bldAt_same h hs)) (fun h => Or.inr (bldAt_same h hs))
theorem bld_mono {T e : TypeId} {B B' b : Nat} {bs : List Value} {w : World} (h : Lib.IsBuilderF T e B b bs w) (hB : B' ≤ B) : Lib.IsBuilderF T e B' b bs w := by
  have key : ∀ p, Lib.BuilderAtF T e B b p bs w → Lib.BuilderAtF T e B' b p bs w := by
    intro p h
    obtain ⟨hb, v, hk, hown, hne⟩ := h
    refine ⟨Nat.le_trans hB hb, v, hk, ⟨hown.1, ?_⟩, hne⟩
    rcases hown.2 with h2 | ⟨g, cap, cur, fz, hv, hg, r⟩
    · exact Or.inl h2
    · exact Or.inr ⟨g, cap, cur, fz, hv, Nat.le_trans hB hg, r⟩
  exact h.elim (fun h => Or.inl (key _ h)) (fun h => Or.inr (key _ h))
/-- all that lay below, untouched, by 'Below' from the heap's end -/
theorem below_same {w w' : World} (h : Below w.heap.size w w') {k : Nat} {o : Obj} (hk : w.heap[k]? = some o) : w'.heap[k]? = some o :=
  (h.block k (Array.getElem?_eq_some_iff.1 hk).1).trans hk
theorem setCell_same {w : World} {a : Addr} {u : Value} {k : Nat} {o : Obj} (hk : w.heap[k]? = some o) (hne : k ≠ a.block) : (w.setCell a u).heap[k]? = some o :=
  (Below.heap_setCell w a u k hne).trans hk
theorem alloc_same {w : World} {x o : Obj} {k : Nat} (hk : w.heap[k]? = some o) : (w.alloc x).heap[k]? = some o :=
  (Lib.alloc_old w x k (Array.getElem?_eq_some_iff.1 hk).1).trans hk
/-- two blocks that hold other things are two -/
theorem ne_of_obj {w : World} {j k : Nat} {x y : Obj} (hj : w.heap[j]? = some x) (hk : w.heap[k]? = some y) (h : x ≠ y) : j ≠ k := by
  rintro rfl
  rw [hj] at hk
  exact h (Option.some.inj hk)
theorem setCell_one {w : World} {W : Nat} {v u : Value} {T : TypeId} (h : w.heap[W]? = some (.cells #[v] T (0, 0))) : (w.setCell ⟨W, 0, none⟩ u).heap[W]? = some (.cells #[u] T (0, 0)) := by
  simp only [World.setCell, Array.getElem?_modify, if_pos, h]
  simp
/-- what an append does to all other blocks -/
theorem app_others {B : Nat} {w w' : World} {e : TypeId} {n : Nat} {xs : List Value} {v : Value} {o : Obj} (hown : w.ownsRow B e 1 v n xs) (hg : (w.alloc o).grownBy w' v.ownBlock) : ∀ (k : Nat) (x : Obj), w.heap[k]? = some x → (∀ c fz, x ≠ .cells c e fz) → w'.heap[k]? = some x :=
  fun _ _ hk hx => app_keeps hk hx hown hg
theorem owns_form {w : World} {B : Nat} {e : TypeId} {v : Value} {n : Nat} {xs : List Value} (h : w.ownsRow B e 1 v n xs) (hn : 0 < n) : ∃ g cap, v = .slice (some ⟨g, 0, none⟩) n cap := by
  rcases h.2 with ⟨_, h0⟩ | ⟨g, cap, cur, rfl, _⟩
  · omega
  · exact ⟨_, _, rfl⟩
theorem bld_block {T e : TypeId} {B b : Nat} {bs : List Value} {w : World} (h : Lib.IsBuilderF T e B b bs w) : ∃ p v, w.heap[b]? = some (.cells #[p, v] T (0, 0)) := by
  rcases h with ⟨_, v, h, _⟩ | ⟨_, v, h, _⟩ <;> exact ⟨_, _, h⟩
/-- a store into a block of one cell of another type leaves a builder -/
theorem bld_setOne {T e : TypeId} {B b : Nat} {bs : List Value} {w : World} (h : Lib.IsBuilderF T e B b bs w) {W : Nat} {v u : Value} {tW : TypeId} (hW : w.heap[W]? = some (.cells #[v] tW (0, 0))) (he : tW ≠ e) : Lib.IsBuilderF T e B b bs (w.setCell ⟨W, 0, none⟩ u) := by
  refine bld_same h ?_
  intro k o hk hor
  refine setCell_same hk ?_
  intro hkW
  replace hkW : k = W := hkW
  rw [hkW, hW] at hk
  have hoo := Option.some.inj hk
  rcases hor with hkb | ⟨c, fz, ho⟩
  · obtain ⟨p, v', hb'⟩ := bld_block h
    rw [← hkb, hkW, hW] at hb'
    cases hb'
  · rw [ho] at hoo; cases hoo; exact he rfl
theorem owns_setOne {w : World} {B : Nat} {e : TypeId} {sz : Nat} {x : Value} {n : Nat} {xs : List Value} (h : w.ownsRow B e sz x n xs) {W : Nat} {v u : Value} {tW : TypeId} (hW : w.heap[W]? = some (.cells #[v] tW (0, 0))) (he : tW ≠ e) : (w.setCell ⟨W, 0, none⟩ u).ownsRow B e sz x n xs := by
  refine owns_same h ?_
  intro k o hk hor
  refine setCell_same hk ?_
  intro hkW
  replace hkW : k = W := hkW
  rw [hkW, hW] at hk
  have hoo := Option.some.inj hk
  obtain ⟨c, fz, ho⟩ := hor
  rw [ho] at hoo; cases hoo; exact he rfl
/-- an owned row of another element type stays at an append -/
theorem owns_app {w w' : World} {B B' : Nat} {e e' : TypeId} {sz : Nat} {x v : Value} {m n : Nat} {ys xs : List Value} {o : Obj} (h : w.ownsRow B e sz x m ys) (hown : w.ownsRow B' e' 1 v n xs) (hg : (w.alloc o).grownBy w' v.ownBlock) (he : e ≠ e') : w'.ownsRow B e sz x m ys :=
  owns_same h (fun _ _ hk ho => app_keeps hk (by
    intro c fz h
    obtain ⟨c', fz', ho⟩ := ho
    rw [ho] at h; cases h; exact he rfl) hown hg)
theorem owns_cell {w : World} {B : Nat} {e : TypeId} {g n cap j : Nat} {xs : List Value} {u : Value} (h : w.ownsRow B e 1 (.slice (some ⟨g, 0, none⟩) n cap) n xs) (hj : xs[j]? = some u) : w.cell? ⟨g, j, none⟩ = some u := by
  rcases rowAt_of_owns h with ⟨h1, _⟩ | ⟨b, off, cap', h1, _, hc⟩
  · cases h1
  · have := hc j u hj
    simp only [Value.slice.injEq, Option.some.injEq, Addr.mk.injEq] at h1
    obtain ⟨⟨rfl, rfl, _⟩, _, _⟩ := h1
    rwa [Nat.zero_add] at this
theorem owns_slice {w : World} {B : Nat} {e : TypeId} {v : Value} {n : Nat} {xs : List Value} (h : w.ownsRow B e 1 v n xs) : ∃ ao cap, v = .slice ao n cap ∧ (0 < n → ∃ g, ao = some ⟨g, 0, none⟩) := by
  rcases h.2 with ⟨rfl, rfl⟩ | ⟨g, cap, cur, rfl, _⟩
  · exact ⟨none, 0, rfl, fun h => absurd h (by decide)⟩
  · exact ⟨_, _, rfl, fun _ => ⟨g, rfl⟩⟩
end Go.Proofs.YtdlfbhbgemoelaaGreatDoor
