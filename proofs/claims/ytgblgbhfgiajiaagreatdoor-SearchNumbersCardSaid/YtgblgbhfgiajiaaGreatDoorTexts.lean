/- The walk over letterboxkeep.texts. No condition beyond those it names. -/
import Derived.Test.YtgblgbhfgiajiaaGreatDoorSRow
import Derived.Test.YtgblgbhfgiajiaaGreatDoorKit2
namespace Go.Proofs.YtgblgbhfgiajiaaGreatDoor
open Go.RowKit Go.Shelf Go.Sort

/-- texts are short enough to be held -/
def textsF (l : List (List UInt8)) : Bool := decide (l.length ≤ 40) && l.all fun t => decide (t.length ≤ 100)
set_option maxRecDepth 100000 in
set_option maxHeartbeats 4000000 in
theorem texts_any (v : Value) (l : List (List UInt8)) (w : World) (hv : SRow w v l) (ht : ∀ t ∈ l, t.length ≤ 9223372036854775807) :
    Calls Tryz.prog 4 #[v] w fun e w' => e = .returned (.bool (textsF l)) ∧ Below w.heap.size w w' := by
  obtain ⟨ao, cap, rfl, hcap, ⟨hcm, _⟩, hcell⟩ := hv
  have HC := Lib.hid hcell
  have HT := Lib.hid ht
  obtain ⟨R, hR⟩ : ∃ R, textsF l = R := ⟨_, rfl⟩
  rw [hR]
  clear hcell ht
  by_cases h40 : (40 : Int) < (l.length : Int)
  · have hX : R = false := by
      rw [← hR]; unfold textsF
      rw [decide_eq_false (by omega)]; rfl
    subst hX
    clear hR
    go_enter Tryz.func4, Tryz.ntmps4
    go_wp2_with fail
    go_ret
    exact ⟨rfl, Below.refl _ _⟩
  · have HR : Hid (R = (l.drop 0).all fun t => decide (t.length ≤ 100)) := by
      show _ = _
      rw [← hR]; unfold textsF
      rw [decide_eq_true (by omega)]; rfl
    clear hR
    go_enter Tryz.func4, Tryz.ntmps4
    go_wp2_with fail
    go_loopg [3] l.length (fun g3 s3 wr => ∃ k : Nat, k + g3 = l.length ∧ s3 = .int .i64 (k : Int) ∧ w = wr ∧ Hid (R = (l.drop k).all fun t => decide (t.length ≤ 100)))
    case atStart => exact ⟨0, by omega, rfl, rfl, HR.out⟩
    case round =>
      obtain ⟨k, hk, rfl, hw, HK⟩ := hrel
      subst hw
      clear HR
      by_cases hlt : k < l.length
      · obtain ⟨g', rfl⟩ : ∃ g', gk = g' + 1 := ⟨gk - 1, by omega⟩
        obtain ⟨s, hs⟩ : ∃ s, l[k]? = some s := ⟨l[k], List.getElem?_eq_getElem hlt⟩
        obtain ⟨b, off, rfl, hb, hc⟩ := HC.out k s hs
        have hsl := HT.out s (List.mem_of_getElem? hs)
        have ts := text_size s
        have hdr : l.drop k = s :: l.drop (k + 1) := by
          rw [List.drop_eq_getElem_cons hlt]
          rw [List.getElem?_eq_getElem hlt] at hs
          rw [Option.some.inj hs]
        have hK := HK.out
        rw [hdr, List.all_cons] at hK
        by_cases h100 : (100 : Int) < (s.length : Int)
        · have hX : R = false := by rw [hK, decide_eq_false (by omega)]; rfl
          subst hX
          clear hK HK hdr hs
          go_wp2_with fail
          go_ret
          exact ⟨rfl, Below.refl _ _⟩
        · have HK2 : Hid (R = (l.drop (k + 1)).all fun t => decide (t.length ≤ 100)) := by show _ = _; rw [hK, decide_eq_true (by omega)]; rfl
          clear hK HK hdr hs
          go_wp2_with fail
          go_roundg g'
          case measure => omega
          case rel => exact ⟨k + 1, by omega, by go_num, rfl, HK2.out⟩
      · have hX : R = true := by rw [HK.out, List.drop_eq_nil_of_le (by omega)]; rfl
        subst hX
        clear HK
        go_wp2_with fail
        go_ret
        exact ⟨rfl, Below.refl _ _⟩

end Go.Proofs.YtgblgbhfgiajiaaGreatDoor
