/- slices.Equal at rows of texts, whatever they are. Condition: none. -/
import Derived.Test.YteabnpahhkicaaaDoorBoxA
namespace Go.Proofs.YteabnpahhkicaaaDoor
open Go.RowKit Go.Shelf Go.Sort

theorem map_text_inj : ∀ {l m : List (List UInt8)}, (l.map fun t => (⟨t.toArray⟩ : ByteArray)) = (m.map fun t => ⟨t.toArray⟩) → l = m
  | [], [], _ => rfl
  | [], _ :: _, h => by simp at h
  | _ :: _, [], h => by simp at h
  | x :: l, y :: m, h => by
    rw [List.map_cons, List.map_cons] at h
    injection h with h1 h2
    have e : x = y := by
      have := congrArg (fun b : ByteArray => b.data.toList) h1
      simpa using this
    rw [e, map_text_inj h2]
set_option maxRecDepth 100000 in
set_option maxHeartbeats 2000000 in
theorem equal_quiet (v u : Value) (l m : List (List UInt8)) (w : World) (hv : SRow w v l) (hu : SRow w u m) (hl : l.length ≤ 1000000) (hm : m.length ≤ 1000000) :
    Calls Tryd.prog 11 #[v, u] w fun e w' => e = .returned (.bool (decide (l = m))) ∧ ∃ q, w' = w.drewN q := by
  obtain ⟨ao, cap, rfl, hcap, _, hcell⟩ := hv
  obtain ⟨bo, cap', rfl, hcap', _, hcell'⟩ := hu
  by_cases hlen : l.length = m.length
  · cases l with
    | nil =>
      obtain rfl : m = [] := List.eq_nil_of_length_eq_zero (by simpa using hlen.symm)
      exact (Tryd.slices_Equal_string_empty ao bo cap 0 cap' w (by decide)).mono (by rintro e w' ⟨rfl, rfl⟩; exact ⟨rfl, 0, rfl⟩)
    | cons x r =>
      cases m with
      | nil => simp at hlen
      | cons y q =>
        obtain ⟨b, off, rfl, _, _⟩ := hcell 0 x rfl
        obtain ⟨b2, off2, rfl, _, _⟩ := hcell' 0 y rfl
        refine (Tryd.slices_Equal_string b off (x :: r).length cap b2 off2 (y :: q).length cap' ((x :: r).map fun t => ⟨t.toArray⟩) ((y :: q).map fun t => ⟨t.toArray⟩) w (by simp) (by simp) (by omega) (by omega) (fun j hj => ?_) (fun j hj => ?_)).mono ?_
        · obtain ⟨t, ht⟩ : ∃ t, (x :: r)[j]? = some t := ⟨(x :: r)[j]'(by simpa using hj), List.getElem?_eq_getElem _⟩
          obtain ⟨b', off', e1, _, e3⟩ := hcell j t ht
          cases e1
          rw [e3, map_getD _ ht]
        · obtain ⟨t, ht⟩ : ∃ t, (y :: q)[j]? = some t := ⟨(y :: q)[j]'(by simpa using hj), List.getElem?_eq_getElem _⟩
          obtain ⟨b', off', e1, _, e3⟩ := hcell' j t ht
          cases e1
          rw [e3, map_getD _ ht]
        · rintro e w' ⟨rfl, p, rfl⟩
          refine ⟨?_, p, rfl⟩
          rw [List.take_of_length_le (by simp), List.take_of_length_le (by simp)]
          congr 2
          exact decide_eq_decide.2 ⟨map_text_inj, fun h => by rw [h]⟩
  · have hne : decide (l = m) = false := decide_eq_false (fun e => hlen (by rw [e]))
    rw [hne]
    have hz : ¬ ((l.length : Int) = (m.length : Int)) := by omega
    clear hcell hcell' hne
    go_enter Tryd.func11, Tryd.ntmps11
    go_wp2_with fail
    go_ret
    exact ⟨rfl, 0, rfl⟩
theorem equal_all (v u : Value) (l m : List (List UInt8)) (w : World) (hv : SRow w v l) (hu : SRow w u m) (hl : l.length ≤ 1000000) (hm : m.length ≤ 1000000) :
    Calls Tryd.prog 11 #[v, u] w fun e w' => e = .returned (.bool (decide (l = m))) ∧ Below w.heap.size w w' := (equal_quiet v u l m w hv hu hl hm).mono (by
  rintro e w' ⟨rfl, p, rfl⟩
  exact ⟨rfl, ⟨rfl, rfl, rfl, Nat.le_refl _, fun _ _ => rfl⟩⟩)
end Go.Proofs.YteabnpahhkicaaaDoor
