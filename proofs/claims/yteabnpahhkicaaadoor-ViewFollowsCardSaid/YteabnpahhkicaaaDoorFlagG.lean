/- The walks over the statements' words on flags: texts, flagged, pick, slices.Equal of equal rows. Conditions: flags.system lies as the program's text lays it. -/
import Derived.Test.YteabnpahhkicaaaDoorFlagF
namespace Go.Proofs.YteabnpahhkicaaaDoor
open Go.RowKit Go.Shelf Go.Sort

/-- texts are short enough to be held -/
def textsF (l : List (List UInt8)) : Bool := decide (l.length ≤ 40) && l.all fun t => decide (t.length ≤ 100)
theorem texts_short {l : List (List UInt8)} (h : textsF l = true) : Short l ∧ l.length ≤ 40 := by
  unfold textsF at h
  rw [Bool.and_eq_true, decide_eq_true_eq, List.all_eq_true] at h
  exact ⟨⟨by omega, fun t ht => by have := h.2 t ht; rw [decide_eq_true_eq] at this; omega⟩, h.1⟩
set_option maxRecDepth 100000 in
set_option maxHeartbeats 4000000 in
theorem texts_any (v : Value) (l : List (List UInt8)) (w : World) (hv : SRow w v l) (ht : ∀ t ∈ l, t.length ≤ 9223372036854775807) :
    Calls Tryd.prog 12 #[v] w fun e w' => e = .returned (.bool (textsF l)) ∧ Below w.heap.size w w' := by
  obtain ⟨ao, cap, rfl, hcap, ⟨hcm, _⟩, hcell⟩ := hv
  have HC := Lib.hid hcell
  have HT := Lib.hid ht
  obtain ⟨R, hR⟩ : ∃ R, textsF l = R := ⟨_, rfl⟩
  rw [hR]
  clear hcell ht
  by_cases h40 : (40 : Int) < (l.length : Int)
  · have hX : R = false := by
      rw [← hR]; unfold textsF
      rw [decide_eq_false (by omega)]; rfl
    subst hX
    clear hR
    go_enter Tryd.func12, Tryd.ntmps12
    go_wp2_with fail
    go_ret
    exact ⟨rfl, Below.refl _ _⟩
  · have HR : Hid (R = (l.drop 0).all fun t => decide (t.length ≤ 100)) := by
      show _ = _
      rw [← hR]; unfold textsF
      rw [decide_eq_true (by omega)]; rfl
    clear hR
    go_enter Tryd.func12, Tryd.ntmps12
    go_wp2_with fail
    go_loopg [3] l.length (fun g3 s3 wr => ∃ k : Nat, k + g3 = l.length ∧ s3 = .int .i64 (k : Int) ∧ w = wr ∧ Hid (R = (l.drop k).all fun t => decide (t.length ≤ 100)))
    case atStart => exact ⟨0, by omega, rfl, rfl, HR.out⟩
    case round =>
      obtain ⟨k, hk, rfl, hw, HK⟩ := hrel
      subst hw
      clear HR
      by_cases hlt : k < l.length
      · obtain ⟨g', rfl⟩ : ∃ g', gk = g' + 1 := ⟨gk - 1, by omega⟩
        obtain ⟨s, hs⟩ : ∃ s, l[k]? = some s := ⟨l[k], List.getElem?_eq_getElem hlt⟩
        obtain ⟨b, off, rfl, hb, hc⟩ := HC.out k s hs
        have hsl := HT.out s (List.mem_of_getElem? hs)
        have ts := text_size s
        have hdr : l.drop k = s :: l.drop (k + 1) := by
          rw [List.drop_eq_getElem_cons hlt]
          rw [List.getElem?_eq_getElem hlt] at hs
          rw [Option.some.inj hs]
        have hK := HK.out
        rw [hdr, List.all_cons] at hK
        by_cases h100 : (100 : Int) < (s.length : Int)
        · have hX : R = false := by rw [hK, decide_eq_false (by omega)]; rfl
          subst hX
          clear hK HK hdr hs
          go_wp2_with fail
          go_ret
          exact ⟨rfl, Below.refl _ _⟩
        · have HK2 : Hid (R = (l.drop (k + 1)).all fun t => decide (t.length ≤ 100)) := by show _ = _; rw [hK, decide_eq_true (by omega)]; rfl
          clear hK HK hdr hs
          go_wp2_with fail
          go_roundg g'
          case measure => omega
          case rel => exact ⟨k + 1, by omega, by go_num, rfl, HK2.out⟩
      · have hX : R = true := by rw [HK.out, List.drop_eq_nil_of_le (by omega)]; rfl
        subst hX
        clear HK
        go_wp2_with fail
        go_ret
        exact ⟨rfl, Below.refl _ _⟩

/-- a choice among some -/
def pickF (a : Int) (n : Nat) : Nat := ((IntKind.u64.wrap a).tmod (n : Int)).toNat
theorem u_pos (a : Int) : 0 ≤ IntKind.u64.wrap a := by
  simp only [IntKind.wrap, IntKind.bits, IntKind.signed]
  exact Int.emod_nonneg _ (by decide)
theorem pick_val (a : Int) {n : Nat} (h : 0 < n) : (IntKind.u64.wrap a).tmod (n : Int) = (pickF a n : Int) := by
  unfold pickF
  have h1 := Int.tmod_nonneg (n : Int) (u_pos a)
  omega
theorem pick_lt (a : Int) {n : Nat} (h : 0 < n) : pickF a n < n := by
  have h1 := pick_val a h
  have h2 := Int.tmod_lt_of_pos (IntKind.u64.wrap a) (show (0 : Int) < (n : Int) by omega)
  omega
set_option maxRecDepth 100000 in
set_option maxHeartbeats 1000000 in
theorem pick_any (a : Int) (n : Nat) (w : World) (h0 : 0 < n) (hn : n ≤ 9223372036854775807) (hlo : -9223372036854775808 ≤ a) (hhi : a ≤ 9223372036854775807) :
    Calls Tryd.prog 17 #[.int .i64 a, .int .i64 (n : Int)] w fun e w' => e = .returned (.int .i64 (pickF a n : Int)) ∧ w = w' := by
  have hp := pick_lt a h0
  go_enter Tryd.func17, Tryd.ntmps17
  go_wp2_with fail
  go_ret
  refine ⟨?_, rfl⟩
  have e : wrap64 ((IntKind.u64.wrap a).tmod (n : Int)) = (pickF a n : Int) := by
    rw [pick_val a h0]
    exact IntWalk.wrap64_in _ (by omega)
  simp [e]
/-- slices.Equal of two readings of one list -/
theorem equal_any (v u : Value) (l : List (List UInt8)) (w : World) (hv : SRow w v l) (hu : SRow w u l) (hl : l.length ≤ 1000000) :
    Calls Tryd.prog 11 #[v, u] w fun e w' => e = .returned (.bool true) ∧ Below w.heap.size w w' := by
  obtain ⟨ao, cap, rfl, hcap, _, hcell⟩ := hv
  obtain ⟨bo, cap', rfl, hcap', _, hcell'⟩ := hu
  cases l with
  | nil => exact (Tryd.slices_Equal_string_empty ao bo cap 0 cap' w (by decide)).mono (by rintro e w' ⟨rfl, rfl⟩; exact ⟨rfl, Below.refl _ _⟩)
  | cons x r =>
    obtain ⟨b, off, rfl, _, _⟩ := hcell 0 x rfl
    obtain ⟨b2, off2, rfl, _, _⟩ := hcell' 0 x rfl
    refine (Tryd.slices_Equal_string b off (x :: r).length cap b2 off2 (x :: r).length cap' ((x :: r).map fun t => ⟨t.toArray⟩) ((x :: r).map fun t => ⟨t.toArray⟩) w (by simp) (by simp) (by omega) (by omega) (fun j hj => ?_) (fun j hj => ?_)).mono ?_
    · obtain ⟨t, ht⟩ : ∃ t, (x :: r)[j]? = some t := ⟨(x :: r)[j]'(by simpa using hj), List.getElem?_eq_getElem _⟩
      obtain ⟨b', off', e1, _, e3⟩ := hcell j t ht
      cases e1
      rw [e3, map_getD _ ht]
    · obtain ⟨t, ht⟩ : ∃ t, (x :: r)[j]? = some t := ⟨(x :: r)[j]'(by simpa using hj), List.getElem?_eq_getElem _⟩
      obtain ⟨b', off', e1, _, e3⟩ := hcell' j t ht
      cases e1
      rw [e3, map_getD _ ht]
    · rintro e w' ⟨rfl, q, rfl⟩
      exact ⟨by simp, ⟨rfl, rfl, rfl, Nat.le_refl _, fun _ _ => rfl⟩⟩

def flS : List (List UInt8) := [[98], [92, 115, 101, 101, 110], [97], [98]]
def flX : List (List UInt8) := [[92, 83, 101, 101, 110], [97], [98]]
theorem fl_set : setF flS = .inr flX := by decide +kernel
theorem fl_print : printFl flX = [40, 92, 83, 101, 101, 110, 32, 97, 32, 98, 41] := by decide +kernel
theorem fl_has : hasF flX [92, 83, 69, 69, 78] = true := by decide +kernel
end Go.Proofs.YteabnpahhkicaaaDoor
