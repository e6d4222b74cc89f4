/- slices.DeleteFunc, ContainsFunc at a row of texts and a function that only reads. No condition beyond those each names. -/
import Derived.Test.YtdlfbhbgemoelaaGreatDoorRows
import Derived.Test.YtdlfbhbgemoelaaGreatDoorShelf
import Derived.Test.YtdlfbhbgemoelaaGreatDoorSRow
import Derived.Shelf.SlicesE.DeleteFunc
import Derived.Shelf.SlicesE.IndexFunc
namespace Go.Proofs.YtdlfbhbgemoelaaGreatDoor
open Go.RowKit Go.Shelf Go.Sort

theorem owns_prefix {w : World} {B g n m cap : Nat} {e : TypeId} {xs ys : List Value} (h : w.ownsRow B e 1 (.slice (some ⟨g, 0, none⟩) n cap) n (xs ++ ys)) (hm : xs.length = m) : w.ownsRow B e 1 (.slice (some ⟨g, 0, none⟩) m cap) m xs := by
  obtain ⟨h1, h2⟩ := h
  refine ⟨by omega, ?_⟩
  rcases h2 with ⟨h2, _⟩ | ⟨g', cap', cur, hv, hbase, hh, k1, k2, k3, k4⟩
  · cases h2
  · cases hv
    refine Or.inr ⟨g, cap, cur, rfl, hbase, hh, ?_, k2, k3, ?_⟩
    · rw [List.length_append] at h1; omega
    · have := congrArg (List.take xs.length) k4
      rw [List.take_left, List.take_take] at this
      rw [List.length_append] at h1
      rw [← this]
      congr 1
      omega
theorem delG_none (a : Option Addr) (c : Nat) (fv : Value) (w : World) :
    Calls Tryz.prog 60 #[.slice a 0 c, fv] w fun e w' => e = .returned (.slice a 0 c) ∧ w = w' := by
  have cI := Tryz.slices_IndexFunc_empty (α := List UInt8) a c fv w
  go_enter Tryz.func60, Tryz.ntmps60
  go_wp2_with (go_at_call 62; with_reducible refine cI.mono ?_; rintro e w2 ⟨rfl, hw⟩; rw [hw]; clear hw)
  go_ret
  exact ⟨rfl, rfl⟩
/-- a row that is brought, and whose block alone was written -/
def RowS (B : Nat) (L : List (List UInt8)) (w : World) (o : Option Nat) (e : Ending) (w' : World) : Prop := ∃ v, e = .returned v ∧ w'.ownsRow B 9 1 v L.length (L.map encStr) ∧ w.grownBy w' o
/-- the deletion from a row that the call owns -/
theorem delG_any {fn : Nat} {lb : Array Value} (eg : ∀ args w, (callFunc fn args).run Tryz.prog w = .ok (.enter fn args) w) (p : List UInt8 → Bool) (a : List (List UInt8)) (ov : Value) (B : Nat) (w : World) (hown : w.ownsRow B 9 1 ov a.length (a.map encStr)) (hBw : B ≤ w.heap.size) (hal : a.length ≤ 1000000)
    (hc : ∀ (W : World) (x : List UInt8), Below B w W → Calls Tryz.prog fn (#[encStr x] ++ lb) W fun e w' => e = .returned (.bool (p x)) ∧ ∃ q, w' = W.drewN q) :
    Calls Tryz.prog 60 #[ov, .func (.func fn) #[] lb] w (RowS B (a.filter fun x => !p x) w ov.ownBlock) := by
  rcases hown.2 with ⟨rfl, h0'⟩ | ⟨g, cap, cur, rfl, hbase, hb, h1, h2, h3, h4⟩
  · have : a = [] := List.eq_nil_of_length_eq_zero h0'
    subst this
    refine (delG_none none 0 _ w).mono ?_
    rintro e w' ⟨rfl, rfl⟩
    exact ⟨_, rfl, World.ownsRow_nil _ _ _ _, World.grownBy.refl _ _⟩
  · have hH : Holds encStr w g 0 a.toArray := holds_of_block hb (by simpa using h4)
    have hgl := (Array.getElem?_eq_some_iff.1 hb).1
    have hp : PredAt Tryz.prog fn lb encStr p w := fun W x hW => hc W x (hW.mono hBw)
    have hpo : PredOver Tryz.prog fn lb encStr p g 0 a.toArray.size w := fun n os dk x _ => hc _ x ((Below.refl B w).grown (grownBy_sorted dk) hBw (fun k e => by cases e; exact hbase))
    refine (Tryz.slices_DeleteFunc encStr (fun _ => rfl) p fn lb eg [] (fun _ => by kernel_rfl) g 0 cap a.toArray w hp hpo hH (by simp; omega) (by simpa using h1)).mono ?_
    rintro e w' ⟨rfl, q, rfl⟩
    have ef : (a.toArray.toList.filter fun x => !p x) = a.filter fun x => !p x := by simp
    rw [ef]
    have hle : (a.filter fun x => !p x).length ≤ a.length := List.length_filter_le _ _
    generalize (a.filter fun x => !p x) = F at hle ⊢
    have hgr : w.grownBy (grow (putRow encStr (Sort.ahead w q) g 0 (F ++ List.replicate (a.toArray.size - F.length) []).toArray) #[]) (some g) := grownBy_sorted _
    have ho := ownsRow_sorted (ss := a) (ts := F ++ List.replicate (a.toArray.size - F.length) []) (n := q) (os := #[]) (by simp; omega) hbase hb h1 h2 h3
    rw [grow_empty] at hgr ho
    refine ⟨_, rfl, ?_, hgr⟩
    rw [List.map_append] at ho
    exact owns_prefix ho (by simp)
end Go.Proofs.YtdlfbhbgemoelaaGreatDoor
