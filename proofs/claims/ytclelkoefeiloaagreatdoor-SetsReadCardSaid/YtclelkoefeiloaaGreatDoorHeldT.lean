/- A region that draws its order: where two operations may come up. Over any program. No condition beyond those each names. -/
import Derived.Test.YtclelkoefeiloaaGreatDoorHeldS
namespace Go.Proofs.YtclelkoefeiloaaGreatDoor
open Go.RowKit
section
variable {P : Program} {ops : Array Oper} {Q : Exit → Act → World → Prop} {md : Region.Mode} {S S0 : World → Prop} {t : Nat}
/-- either of two may come up -/
theorem until_two {i j : Nat} {oi oj : Oper} {f : Nat} {l : Array Bool} {a : Act} {w : World} (hr : Region.ready md ops l = [i, j]) (hoi : ops[i]? = some oi) (hoj : ops[j]? = some oj)
    (h1 : ∀ K' : Act → World → Prop, Shut (∀ a w, S0 w → (i ≠ t → l.getD t true = false → S w) → wpUntil P md ops Q S S0 t f (l.setIfInBounds i true) a w → K' a w) → if Region.wanted oi (yielded ops a.tmps) = true then Oper.wp P oi a w K' Q else K' (a.put oi.dst undef) w)
    (h2 : ∀ K' : Act → World → Prop, Shut (∀ a w, S0 w → (j ≠ t → l.getD t true = false → S w) → wpUntil P md ops Q S S0 t f (l.setIfInBounds j true) a w → K' a w) → if Region.wanted oj (yielded ops a.tmps) = true then Oper.wp P oj a w K' Q else K' (a.put oj.dst undef) w) : wpUntil P md ops Q S S0 t (f + 1) l a w := by
  refine ⟨fun h0 => (by rw [hr] at h0; cases h0), fun k hk => ?_⟩
  rw [hr] at hk
  rcases List.mem_cons.1 hk with rfl | hk
  · exact wpOp_step hoi (fun K' hK => h1 K' (fun a w k0 k1 k2 => hK a w ⟨⟨k0, k1⟩, k2⟩))
  · obtain rfl := List.mem_singleton.1 hk
    exact wpOp_step hoj (fun K' hK => h2 K' (fun a w k0 k1 k2 => hK a w ⟨⟨k0, k1⟩, k2⟩))
end
/-- a store into an owned row -/
theorem own_set {w : World} {base : Nat} {e : TypeId} {size g n cap i : Nat} {xs : List Value} (h : w.ownsRow base e size (.slice (some ⟨g, 0, none⟩) n cap) n xs) (u : Value) : (w.setCell ⟨g, i, none⟩ u).ownsRow base e size (.slice (some ⟨g, 0, none⟩) n cap) n (xs.set i u) := by
  obtain ⟨hl, h⟩ := h
  refine ⟨by rw [List.length_set]; exact hl, ?_⟩
  rcases h with ⟨h0, _⟩ | ⟨g', cap', cur, h1, h2, h3, h4, h5, h6, h7⟩
  · cases h0
  · cases h1
    refine Or.inr ⟨g, cap, cur.setIfInBounds i u, rfl, h2, ?_, h4, h5, by rw [Array.size_setIfInBounds]; exact h6, ?_⟩
    · simp only [World.setCell, Array.getElem?_modify, if_pos, h3]
      simp
    · rw [← h7, Array.toList_setIfInBounds, List.take_set]
theorem setCell_comm (w : World) (a b : Addr) (u v : Value) (h : a.block ≠ b.block) : (w.setCell a u).setCell b v = (w.setCell b v).setCell a u := by
  unfold World.setCell
  simp only [World.mk.injEq, and_true, true_and]
  apply Array.ext
  · simp
  · intro i h1 h2
    simp only [Array.getElem_modify]
    by_cases ha : a.block = i
    · by_cases hb : b.block = i
      · exact absurd (ha.trans hb.symm) h
      · simp [ha, hb]
    · by_cases hb : b.block = i
      · simp [ha, hb]
      · simp [ha, hb]
end Go.Proofs.YtclelkoefeiloaaGreatDoor
