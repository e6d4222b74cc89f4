/- The walk over the fact housed. Conditions: utf8's two tables, bytealg.MaxLen, errors.errorType lie as the program's text lays them. -/
import Derived.Test.YtnhcccakgkoggaaGreatDoorHouI
import Derived.Test.YtnhcccakgkoggaaGreatDoorMatch
import Derived.Test.YtnhcccakgkoggaaGreatDoorTell
import Derived.Test.YtnhcccakgkoggaaGreatDoorBytes
namespace Go.Proofs.YtnhcccakgkoggaaGreatDoor
open Go.RowKit Go.Shelf Go.Sort Go.Maps
set_option linter.unusedSimpArgs false

/-- what the walks over a house need of the program's variables -/
def HC (w : World) : Prop := HG w ∧ ErrTy w
theorem HC.below {w w' : World} (h : HC w) (hb : Below w.heap.size w w') : HC w' := ⟨h.1.below hb, errTy_below h.2 hb⟩
theorem hsrow_owns {W : World} {B : Nat} {v : Value} {l : List (List UInt8)} (h : W.ownsRow B 9 1 v l.length (l.map encStr)) : SRow W v l := by
  rcases h.2 with ⟨rfl, h0⟩ | ⟨g, cap, cur, rfl, hg, hh, h3, h4, h5, h6⟩
  · obtain rfl : l = [] := List.eq_nil_of_length_eq_zero h0
    exact SRow.nil W
  · refine ⟨some ⟨g, 0, none⟩, cap, rfl, h3, ⟨by unfold maxLen at h4; omega, fun h => by cases h⟩, fun j t hj => ⟨g, 0, rfl, (Array.getElem?_eq_some_iff.1 hh).1, ?_⟩⟩
    rw [Nat.zero_add]
    exact owns_cell h (by rw [List.getElem?_map, hj]; rfl)
theorem hmap_getD (l : List (List UInt8)) {j : Nat} {t : List UInt8} (h : l[j]? = some t) : (l.map fun t => (⟨t.toArray⟩ : ByteArray)).getD j ByteArray.empty = ⟨t.toArray⟩ := by
  rw [List.getD, List.getElem?_map, h]; rfl
theorem hmap_inj {a b : List Bs} (h : (a.map fun t => (⟨t.toArray⟩ : ByteArray)) = b.map fun t => ⟨t.toArray⟩) : a = b := by
  have := congrArg (List.map fun b : ByteArray => b.data.toList) h
  simpa [Function.comp_def] using this
theorem heq_any (v u : Value) (l m : List Bs) (w : World) (hv : SRow w v l) (hu : SRow w u m) (hl : l.length ≤ 1000000) (hm : m.length ≤ 1000000) :
    Calls Tryz.prog 16 #[v, u] w fun e w' => e = .returned (.bool (decide (l = m))) ∧ Below w.heap.size w w' := by
  obtain ⟨ao, cap, rfl, hcap, ⟨_, hn1⟩, hcell⟩ := hv
  obtain ⟨bo, cap', rfl, hcap', ⟨_, hn2⟩, hcell'⟩ := hu
  cases l with
  | nil =>
    refine (Tryz.slices_Equal_string_empty ao bo cap m.length cap' w (by omega)).mono ?_
    rintro e w' ⟨rfl, rfl⟩
    exact ⟨by cases m <;> rfl, Below.refl _ _⟩
  | cons x r =>
    cases m with
    | nil =>
      clear hcell hcell' hn1 hn2
      have hL : (x :: r).length = r.length + 1 := rfl
      rw [hL] at hcap hl ⊢
      have hz2 : (((r.length + 1 : Nat) : Int) != 0) = true := by rw [bne_iff_ne]; omega
      have hd : decide (((r.length + 1 : Nat) : Int) = 0) = false := by rw [decide_eq_false_iff_not]; omega
      show Calls _ _ #[_, .slice bo 0 cap'] _ fun e w' => e = .returned (.bool false) ∧ _
      obtain ⟨n, hn⟩ : ∃ n, r.length + 1 = n := ⟨_, rfl⟩
      rw [hn] at hz2 hd ⊢
      have hn0 : ¬ (n = 0) := by omega
      clear hL hcap hl hm hcap' hn
      go_enter Tryz.func16, Tryz.ntmps16
      go_wp2_with fail
      go_ret
      exact ⟨rfl, Below.refl _ _⟩
    | cons y q =>
      obtain ⟨b, off, rfl, _, _⟩ := hcell 0 x rfl
      obtain ⟨b2, off2, rfl, _, _⟩ := hcell' 0 y rfl
      refine (Tryz.slices_Equal_string b off (x :: r).length cap b2 off2 (y :: q).length cap' ((x :: r).map fun t => ⟨t.toArray⟩) ((y :: q).map fun t => ⟨t.toArray⟩) w (by simp) (by simp) (by omega) (by omega) (fun j hj => ?_) (fun j hj => ?_)).mono ?_
      · obtain ⟨t, ht⟩ : ∃ t, (x :: r)[j]? = some t := ⟨(x :: r)[j]'(by simpa using hj), List.getElem?_eq_getElem _⟩
        obtain ⟨b', off', e1, _, e3⟩ := hcell j t ht
        cases e1
        rw [e3, hmap_getD _ ht]
      · obtain ⟨t, ht⟩ : ∃ t, (y :: q)[j]? = some t := ⟨(y :: q)[j]'(by simpa using hj), List.getElem?_eq_getElem _⟩
        obtain ⟨b', off', e1, _, e3⟩ := hcell' j t ht
        cases e1
        rw [e3, hmap_getD _ ht]
      · rintro e w' ⟨rfl, q', rfl⟩
        refine ⟨?_, ⟨rfl, rfl, rfl, Nat.le_refl _, fun _ _ => rfl⟩⟩
        have e1 : ((x :: r).map fun t => (⟨t.toArray⟩ : ByteArray)).take (x :: r).length = (x :: r).map fun t => ⟨t.toArray⟩ := List.take_of_length_le (by simp)
        have e2 : ((y :: q).map fun t => (⟨t.toArray⟩ : ByteArray)).take (y :: q).length = (y :: q).map fun t => ⟨t.toArray⟩ := List.take_of_length_le (by simp)
        rw [e1, e2]
        congr 2
        rw [decide_eq_decide]
        exact ⟨hmap_inj, fun h => by rw [h]⟩
end Go.Proofs.YtnhcccakgkoggaaGreatDoor
