/- A region that draws its order, whose last stores write what its loads read: a load may be taken first, if the store waits for it. Over any program. No condition beyond those each names. -/
import Derived.OrdersHeld
import Derived.Deep.RegionHeld
import Derived.StillTail
import Derived.Test.YtcahhnjponeeeaaGreatDoorPkKit2
namespace Go.Proofs.YtcahhnjponeeeaaGreatDoor
open Go.RowKit
section
variable {P : Program} {ops : Array Oper} {Q : Exit → Act → World → Prop} {md : Region.Mode} {S S0 : World → Prop} {t : Nat}
/-- whatever order is picked from here on; S0 holds behind each operation, and S as long as number t has not come up -/
def wpUntil (P : Program) (md : Region.Mode) (ops : Array Oper) (Q : Exit → Act → World → Prop) (S S0 : World → Prop) (t : Nat) : Nat → Array Bool → Act → World → Prop
  | 0, l, a, w => Region.ready md ops l = [] ∧ Q .normal a w
  | f + 1, l, a, w => (Region.ready md ops l = [] → Q .normal a w) ∧
    ∀ i ∈ Region.ready md ops l, wpOp P ops Q i (fun a' w' => (S0 w' ∧ (i ≠ t → l.getD t true = false → S w')) ∧ wpUntil P md ops Q S S0 t f (l.setIfInBounds i true) a' w') a w
theorem until_start {id : Nat} {a : Act} {w : World} (hm : P.follows .mixedOrders = true) (h : wpUntil P .any ops Q S S0 t ops.size (Array.replicate ops.size false) a w.drew) : (Code.region id ops true).wp P Q a w :=
  wp_region_held (S := fun _ => True) hm (by
    have key : ∀ (f : Nat) (l : Array Bool) (a : Act) (w : World), wpUntil P .any ops Q S S0 t f l a w → wpAnyH P .any ops Q (fun _ => True) f l a w := by
      intro f
      induction f with
      | zero => intro l a w h; exact h
      | succ f ih => intro l a w h; exact ⟨h.1, fun i hi => wpOp_mono (fun a' w' k => ⟨trivial, ih _ a' w' k.2⟩) (h.2 i hi)⟩
    exact key _ _ _ _ h)
/-- an operation that t waits for, or that yields under S0 alone, may be taken first -/
theorem until_first {i : Nat} {oi : Oper} {v : Value} {Sx : World → Prop} (hi : ops[i]? = some oi) (hsel : ∀ (j : Nat) (o : Oper) cs b, ops[j]? = some o → o.op ≠ .select cs b)
    (hQ : ∀ c a w, Q (.panic c) (a.put oi.dst v) w → Q (.panic c) a w) (hit : i ≠ t) (hx : Sx = S0 ∨ Sx = S ∧ Region.waitsFor md ops t i = true) :
    ∀ (f : Nat) (l : Array Bool) (a : Act) (w : World),
      (∀ j oj, ops[j]? = some oj → j ≠ i → l.getD j true = false → (∀ e ∈ oj.after, Region.binds md e = true → e.on ≠ i) → oi.apart ops oj = true) →
      i ∈ Region.ready md ops l → YieldsIf P ops Sx oi v a → S0 w → (Sx = S0 ∨ l.getD t true = false) → (l.getD t true = false → S w) →
      wpUntil P md ops Q S S0 t f (l.setIfInBounds i true) (a.put oi.dst v) w → wpUntil P md ops Q S S0 t (f + 1) l a w := by
  have hxw : ∀ (l : Array Bool) (w : World), S0 w → (Sx = S0 ∨ l.getD t true = false) → (l.getD t true = false → S w) → Sx w := fun l w h0 h1 h2 => by
    rcases hx with rfl | ⟨rfl, _⟩
    · exact h0
    · rcases h1 with e | e
      · rw [e]; exact h0
      · exact h2 e
  have hnt : ∀ (l : Array Bool) (j : Nat), l.getD i true = false → l.size ≠ 0 ∨ True → j ∈ Region.ready md ops l → j = t → Sx = S0 := fun l j hli _ hj hjt => by
    rcases hx with e | ⟨_, hw⟩
    · exact e
    · exfalso
      subst hjt
      obtain ⟨oj, hoj, e, he, hb, hon⟩ := Region.waitsFor_spec hw
      obtain ⟨_, oj', hoj', hall⟩ := mem_ready.1 hj
      rw [hoj] at hoj'
      cases hoj'
      have h1 := hall e he hb
      rw [hon] at h1
      rw [getD_both hli] at h1
      cases h1
  intro f
  induction f with
  | zero =>
    intro l a w _ hr hy h0 h1 h2 H
    refine ⟨fun h => (by rw [h] at hr; cases hr), fun j hj => ?_⟩
    by_cases hji : j = i
    · subst hji; exact hy.wpOp hi (hxw l w h0 h1 h2) ⟨⟨h0, fun _ => h2⟩, H⟩
    · have := ready_mono hj hji
      rw [H.1] at this
      cases this
  | succ f ih =>
    intro l a w hfree hr hy h0 h1 h2 H
    refine ⟨fun h => (by rw [h] at hr; cases hr), fun j hj => ?_⟩
    have hli := (mem_ready.1 hr).1
    by_cases hji : j = i
    · subst hji; exact hy.wpOp hi (hxw l w h0 h1 h2) ⟨⟨h0, fun _ => h2⟩, H⟩
    · have k1 := H.2 j (ready_mono hj hji)
      obtain ⟨hjun, oj, hoj, hall⟩ := mem_ready.1 hj
      have hnot : ∀ e ∈ oj.after, Region.binds md e = true → e.on ≠ i := fun e he hb heq => by
        have g1 := hall e he hb
        rw [heq, getD_both hli] at g1
        cases g1
      have k2 := wpOp_putIf hoj (hfree j oj hoj hji hjun hnot) (fun cs b => hsel i oi cs b hi) (fun cs b => hsel j oj cs b hoj) hQ hy k1
      have hfree' : ∀ k ok, ops[k]? = some ok → k ≠ i → (l.setIfInBounds j true).getD k true = false → (∀ e ∈ ok.after, Region.binds md e = true → e.on ≠ i) → oi.apart ops ok = true := fun k ok hk hki hun hno => by
        by_cases hjk : j = k
        · subst hjk; exact hfree _ _ hk hki hjun hno
        · rw [getD_set_ne true hjk] at hun
          exact hfree _ _ hk hki hun hno
      have hti : (l.setIfInBounds i true).getD t true = l.getD t true := getD_set_ne true hit
      refine wpOp_mono (fun a' w' k3 => ?_) k2
      obtain ⟨y, ⟨s0, s1⟩, k⟩ := k3
      rw [hti] at s1
      refine ⟨⟨s0, s1⟩, ih (l.setIfInBounds j true) a' w' hfree' (ready_mono hr (Ne.symm hji)) y s0 ?_ ?_ ?_⟩
      · by_cases hjt : j = t
        · exact Or.inl (hnt l j hli (Or.inr trivial) hj hjt)
        · rw [getD_set_ne true hjt]; exact h1
      · by_cases hjt : j = t
        · intro hh
          subst hjt
          exfalso
          have hlt : j < l.size := by
            rcases Nat.lt_or_ge j l.size with q | q
            · exact q
            · simp [Array.getElem?_eq_none q] at hjun
          simp [hlt] at hh
        · rw [getD_set_ne true hjt]; exact s1 hjt
      · rw [Array.setIfInBounds_comm _ _ hji]
        exact k
/-- a load that t waits for, taken first -/
theorem until_take {i : Nat} {oi : Oper} {v : Value} {f : Nat} {l : Array Bool} {a : Act} {w : World} (hi : ops[i]? = some oi) (hs : Region.noSelect ops = true) (hf : Region.free md ops l i = true) (hr : (Region.ready md ops l).contains i = true)
    (hw : (i != t && Region.waitsFor md ops t i && !l.getD t true) = true) (hQ : ∀ c a w, Q (.panic c) (a.put oi.dst v) w → Q (.panic c) a w) (hy : YieldsIf P ops S oi v a) (h0 : S0 w) (h1 : S w)
    (h : wpUntil P md ops Q S S0 t f (l.setIfInBounds i true) (a.put oi.dst v) w) : wpUntil P md ops Q S S0 t (f + 1) l a w := by
  simp only [Bool.and_eq_true, bne_iff_ne, ne_eq, Bool.not_eq_true'] at hw
  exact until_first hi (Region.noSelect_spec hs) hQ hw.1.1 (Or.inr ⟨rfl, hw.1.2⟩) f l a w (Region.free_spec hi hf) (by simpa using hr) hy h0 (Or.inr hw.2) (fun _ => h1) h
/-- what yields under S0, taken first -/
theorem until_take0 {i : Nat} {oi : Oper} {v : Value} {f : Nat} {l : Array Bool} {a : Act} {w : World} (hi : ops[i]? = some oi) (hs : Region.noSelect ops = true) (hf : Region.free md ops l i = true) (hr : (Region.ready md ops l).contains i = true)
    (hw : (i != t) = true) (hQ : ∀ c a w, Q (.panic c) (a.put oi.dst v) w → Q (.panic c) a w) (hy : YieldsIf P ops S0 oi v a) (h0 : S0 w) (h1 : l.getD t true = false → S w)
    (h : wpUntil P md ops Q S S0 t f (l.setIfInBounds i true) (a.put oi.dst v) w) : wpUntil P md ops Q S S0 t (f + 1) l a w :=
  until_first hi (Region.noSelect_spec hs) hQ (by simpa using hw) (Or.inl rfl) f l a w (Region.free_spec hi hf) (by simpa using hr) hy h0 (Or.inl rfl) h1 h
/-- the one that may come up -/
theorem until_step {i : Nat} {o : Oper} {f : Nat} {l : Array Bool} {a : Act} {w : World} (hr : Region.ready md ops l = [i]) (ho : ops[i]? = some o)
    (h : ∀ K' : Act → World → Prop, Shut (∀ a w, S0 w → (i ≠ t → l.getD t true = false → S w) → wpUntil P md ops Q S S0 t f (l.setIfInBounds i true) a w → K' a w) → if Region.wanted o (yielded ops a.tmps) = true then Oper.wp P o a w K' Q else K' (a.put o.dst undef) w) : wpUntil P md ops Q S S0 t (f + 1) l a w := by
  refine ⟨fun h0 => (by rw [hr] at h0; cases h0), fun j hj => ?_⟩
  rw [hr] at hj
  obtain rfl := List.mem_singleton.1 hj
  exact wpOp_step ho (fun K' hK => h K' (fun a w k0 k1 k2 => hK a w ⟨⟨k0, k1⟩, k2⟩))
theorem until_done {l : Array Bool} {a : Act} {w : World} (hr : Region.ready md ops l = []) (h : Q .normal a w) : ∀ f, wpUntil P md ops Q S S0 t f l a w
  | 0 => ⟨hr, h⟩
  | _ + 1 => ⟨fun _ => h, by rw [hr]; simp⟩
end
end Go.Proofs.YtcahhnjponeeeaaGreatDoor
