/- What stays as it was: builders, owned rows, single blocks, over any program. No condition beyond those each names. -/
import Derived.Test.YtnhcccakgkoggaaGreatDoorKit
namespace Go.Proofs.YtnhcccakgkoggaaGreatDoor
open Go.RowKit

/-! ### what stays a builder, an owned row -/
theorem owns_same {w w' : World} {B : Nat} {e : TypeId} {sz : Nat} {v : Value} {n : Nat} {xs : List Value} (h : w.ownsRow B e sz v n xs) (hs : ∀ (k : Nat) (o : Obj), w.heap[k]? = some o → (∃ c fz, o = .cells c e fz) → w'.heap[k]? = some o) : w'.ownsRow B e sz v n xs := by
  obtain ⟨h1, h2⟩ := h
  refine ⟨h1, ?_⟩
  rcases h2 with h2 | ⟨g, cap, cur, hv, hg, hh, r⟩
  · exact Or.inl h2
  · exact Or.inr ⟨g, cap, cur, hv, hg, hs _ _ hh ⟨_, _, rfl⟩, r⟩
theorem ownsF_same {w w' : World} {B : Nat} {e : TypeId} {sz : Nat} {v : Value} {n : Nat} {xs : List Value} (h : w.ownsRowF B e sz v n xs) (hs : ∀ (k : Nat) (o : Obj), w.heap[k]? = some o → (∃ c fz, o = .cells c e fz) → w'.heap[k]? = some o) : w'.ownsRowF B e sz v n xs := by
  obtain ⟨h1, h2⟩ := h
  refine ⟨h1, ?_⟩
  rcases h2 with h2 | ⟨g, cap, cur, fz, hv, hg, hh, r⟩
  · exact Or.inl h2
  · exact Or.inr ⟨g, cap, cur, fz, hv, hg, hs _ _ hh ⟨_, _, rfl⟩, r⟩
theorem bldAt_same {T e : TypeId} {B b : Nat} {p : Value} {bs : List Value} {w w' : World} (h : Lib.BuilderAtF T e B b p bs w) (hs : ∀ (k : Nat) (o : Obj), w.heap[k]? = some o → (k = b ∨ ∃ c fz, o = .cells c e fz) → w'.heap[k]? = some o) : Lib.BuilderAtF T e B b p bs w' := by
  obtain ⟨hB, v, hb, hown, hne⟩ := h
  exact ⟨hB, v, hs _ _ hb (Or.inl rfl), ownsF_same hown (fun k o hk ho => hs k o hk (Or.inr ho)), hne⟩
theorem bld_same {T e : TypeId} {B b : Nat} {bs : List Value} {w w' : World} (h : Lib.IsBuilderF T e B b bs w) (hs : ∀ (k : Nat) (o : Obj), w.heap[k]? = some o → (k = b ∨ ∃ c fz, o = .cells c e fz) → w'.heap[k]? = some o) : Lib.IsBuilderF T e B b bs w' :=
  h.elim (fun h => Or.inl (bldAt_same h hs)) (fun h => Or.inr (bldAt_same h hs))
theorem bld_mono {T e : TypeId} {B B' b : Nat} {bs : List Value} {w : World} (h : Lib.IsBuilderF T e B b bs w) (hB : B' ≤ B) : Lib.IsBuilderF T e B' b bs w := by
  have key : ∀ p, Lib.BuilderAtF T e B b p bs w → Lib.BuilderAtF T e B' b p bs w := by
    intro p h
    obtain ⟨hb, v, hk, hown, hne⟩ := h
    refine ⟨Nat.le_trans hB hb, v, hk, ⟨hown.1, ?_⟩, hne⟩
    rcases hown.2 with h2 | ⟨g, cap, cur, fz, hv, hg, r⟩
    · exact Or.inl h2
    · exact Or.inr ⟨g, cap, cur, fz, hv, Nat.le_trans hB hg, r⟩
  exact h.elim (fun h => Or.inl (key _ h)) (fun h => Or.inr (key _ h))
/-- all that lay below, untouched, by 'Below' from the heap's end -/
theorem below_same {w w' : World} (h : Below w.heap.size w w') {k : Nat} {o : Obj} (hk : w.heap[k]? = some o) : w'.heap[k]? = some o :=
  (h.block k (Array.getElem?_eq_some_iff.1 hk).1).trans hk
theorem setCell_same {w : World} {a : Addr} {u : Value} {k : Nat} {o : Obj} (hk : w.heap[k]? = some o) (hne : k ≠ a.block) : (w.setCell a u).heap[k]? = some o :=
  (Below.heap_setCell w a u k hne).trans hk
theorem alloc_same {w : World} {x o : Obj} {k : Nat} (hk : w.heap[k]? = some o) : (w.alloc x).heap[k]? = some o :=
  (Lib.alloc_old w x k (Array.getElem?_eq_some_iff.1 hk).1).trans hk
/-- two blocks that hold other things are two -/
theorem ne_of_obj {w : World} {j k : Nat} {x y : Obj} (hj : w.heap[j]? = some x) (hk : w.heap[k]? = some y) (h : x ≠ y) : j ≠ k := by
  rintro rfl
  rw [hj] at hk
  exact h (Option.some.inj hk)
theorem setCell_one {w : World} {W : Nat} {v u : Value} {T : TypeId} (h : w.heap[W]? = some (.cells #[v] T (0, 0))) : (w.setCell ⟨W, 0, none⟩ u).heap[W]? = some (.cells #[u] T (0, 0)) := by
  simp only [World.setCell, Array.getElem?_modify, if_pos, h]
  simp
/-- what an append does to all other blocks -/
theorem app_others {B : Nat} {w w' : World} {e : TypeId} {n : Nat} {xs : List Value} {v : Value} {o : Obj} (hown : w.ownsRow B e 1 v n xs) (hg : (w.alloc o).grownBy w' v.ownBlock) : ∀ (k : Nat) (x : Obj), w.heap[k]? = some x → (∀ c fz, x ≠ .cells c e fz) → w'.heap[k]? = some x :=
  fun _ _ hk hx => app_keeps hk hx hown hg
theorem owns_form {w : World} {B : Nat} {e : TypeId} {v : Value} {n : Nat} {xs : List Value} (h : w.ownsRow B e 1 v n xs) (hn : 0 < n) : ∃ g cap, v = .slice (some ⟨g, 0, none⟩) n cap := by
  rcases h.2 with ⟨_, h0⟩ | ⟨g, cap, cur, rfl, _⟩
  · omega
  · exact ⟨_, _, rfl⟩
theorem bld_block {T e : TypeId} {B b : Nat} {bs : List Value} {w : World} (h : Lib.IsBuilderF T e B b bs w) : ∃ p v, w.heap[b]? = some (.cells #[p, v] T (0, 0)) := by
  rcases h with ⟨_, v, h, _⟩ | ⟨_, v, h, _⟩ <;> exact ⟨_, _, h⟩
/-- a store into a block of one cell of another type leaves a builder -/
theorem bld_setOne {T e : TypeId} {B b : Nat} {bs : List Value} {w : World} (h : Lib.IsBuilderF T e B b bs w) {W : Nat} {v u : Value} {tW : TypeId} (hW : w.heap[W]? = some (.cells #[v] tW (0, 0))) (he : tW ≠ e) : Lib.IsBuilderF T e B b bs (w.setCell ⟨W, 0, none⟩ u) := by
  refine bld_same h ?_
  intro k o hk hor
  refine setCell_same hk ?_
  intro hkW
  replace hkW : k = W := hkW
  rw [hkW, hW] at hk
  have hoo := Option.some.inj hk
  rcases hor with hkb | ⟨c, fz, ho⟩
  · obtain ⟨p, v', hb'⟩ := bld_block h
    rw [← hkb, hkW, hW] at hb'
    cases hb'
  · rw [ho] at hoo; cases hoo; exact he rfl
theorem owns_setOne {w : World} {B : Nat} {e : TypeId} {sz : Nat} {x : Value} {n : Nat} {xs : List Value} (h : w.ownsRow B e sz x n xs) {W : Nat} {v u : Value} {tW : TypeId} (hW : w.heap[W]? = some (.cells #[v] tW (0, 0))) (he : tW ≠ e) : (w.setCell ⟨W, 0, none⟩ u).ownsRow B e sz x n xs := by
  refine owns_same h ?_
  intro k o hk hor
  refine setCell_same hk ?_
  intro hkW
  replace hkW : k = W := hkW
  rw [hkW, hW] at hk
  have hoo := Option.some.inj hk
  obtain ⟨c, fz, ho⟩ := hor
  rw [ho] at hoo; cases hoo; exact he rfl
/-- an owned row of another element type stays at an append -/
theorem owns_app {w w' : World} {B B' : Nat} {e e' : TypeId} {sz : Nat} {x v : Value} {m n : Nat} {ys xs : List Value} {o : Obj} (h : w.ownsRow B e sz x m ys) (hown : w.ownsRow B' e' 1 v n xs) (hg : (w.alloc o).grownBy w' v.ownBlock) (he : e ≠ e') : w'.ownsRow B e sz x m ys :=
  owns_same h (fun _ _ hk ho => app_keeps hk (by
    intro c fz h
    obtain ⟨c', fz', ho⟩ := ho
    rw [ho] at h; cases h; exact he rfl) hown hg)
theorem owns_cell {w : World} {B : Nat} {e : TypeId} {g n cap j : Nat} {xs : List Value} {u : Value} (h : w.ownsRow B e 1 (.slice (some ⟨g, 0, none⟩) n cap) n xs) (hj : xs[j]? = some u) : w.cell? ⟨g, j, none⟩ = some u := by
  rcases rowAt_of_owns h with ⟨h1, _⟩ | ⟨b, off, cap', h1, _, hc⟩
  · cases h1
  · have := hc j u hj
    simp only [Value.slice.injEq, Option.some.injEq, Addr.mk.injEq] at h1
    obtain ⟨⟨rfl, rfl, _⟩, _, _⟩ := h1
    rwa [Nat.zero_add] at this
theorem owns_slice {w : World} {B : Nat} {e : TypeId} {v : Value} {n : Nat} {xs : List Value} (h : w.ownsRow B e 1 v n xs) : ∃ ao cap, v = .slice ao n cap ∧ (0 < n → ∃ g, ao = some ⟨g, 0, none⟩) := by
  rcases h.2 with ⟨rfl, rfl⟩ | ⟨g, cap, cur, rfl, _⟩
  · exact ⟨none, 0, rfl, fun h => absurd h (by decide)⟩
  · exact ⟨_, _, rfl, fun _ => ⟨g, rfl⟩⟩
end Go.Proofs.YtnhcccakgkoggaaGreatDoor
