/- What texts says, plainly. No condition. The walks over the law's texts and the reference's Holds: each returns what its plain function says. Condition: none. The walk over the reference's Found: its closure, and the cases that have no loop. Conditions: bytealg.MaxLen lies. The walk over the reference's Found where a head's field is asked for. Conditions: bytealg.MaxLen and letterboxref.Fine lie. The walk over the reference's Found: not, or, and; Found answers as its plain function does. Conditions: bytealg.MaxLen and letterboxref.Fine lie. -/
import Derived.Deep.RegionHeld3
import Derived.Test.YtcahhnjponeeeaaGreatDoorPkPSearch3
import Derived.Test.YtcahhnjponeeeaaGreatDoorPkFlagD
import Derived.Test.YtcahhnjponeeeaaGreatDoorPkSrchS
import Derived.Test.YtcahhnjponeeeaaGreatDoorPkHeadL
import Derived.Test.YtcahhnjponeeeaaGreatDoorPkRSetC
namespace Go.Proofs.YtcahhnjponeeeaaGreatDoor
/-- texts are short enough to be held -/
def textsF (l : List (List UInt8)) : Bool := decide (l.length ≤ 40) && l.all fun t => decide (t.length ≤ 100)
end Go.Proofs.YtcahhnjponeeeaaGreatDoor
namespace Go.Proofs.YtcahhnjponeeeaaGreatDoor
open Go.RowKit Go.Shelf Go.Sort
set_option maxRecDepth 100000 in
set_option maxHeartbeats 4000000 in
theorem ltexts_any (v : Value) (l : List (List UInt8)) (w : World) (hv : SRow w v l) (ht : ∀ t ∈ l, t.length ≤ 9223372036854775807) :
    Calls Tryz.prog 13 #[v] w fun e w' => e = .returned (.bool (textsF l)) ∧ Below w.heap.size w w' := by
  obtain ⟨ao, cap, rfl, hcap, ⟨hcm, _⟩, hcell⟩ := hv
  have HC := Lib.hid hcell
  have HT := Lib.hid ht
  obtain ⟨R, hR⟩ : ∃ R, textsF l = R := ⟨_, rfl⟩
  rw [hR]
  clear hcell ht
  by_cases h40 : (40 : Int) < (l.length : Int)
  · have hX : R = false := by
      rw [← hR]; unfold textsF
      rw [decide_eq_false (by omega)]; rfl
    subst hX
    clear hR
    go_enter Tryz.func13, Tryz.ntmps13
    go_wp2_with fail
    go_ret
    exact ⟨rfl, Below.refl _ _⟩
  · have HR : Hid (R = (l.drop 0).all fun t => decide (t.length ≤ 100)) := by
      show _ = _
      rw [← hR]; unfold textsF
      rw [decide_eq_true (by omega)]; rfl
    clear hR
    go_enter Tryz.func13, Tryz.ntmps13
    go_wp2_with fail
    go_loopg [3] l.length (fun g3 s3 wr => ∃ k : Nat, k + g3 = l.length ∧ s3 = .int .i64 (k : Int) ∧ w = wr ∧ Hid (R = (l.drop k).all fun t => decide (t.length ≤ 100)))
    case atStart => exact ⟨0, by omega, rfl, rfl, HR.out⟩
    case round =>
      obtain ⟨k, hk, rfl, hw, HK⟩ := hrel
      subst hw
      clear HR
      by_cases hlt : k < l.length
      · obtain ⟨g', rfl⟩ : ∃ g', gk = g' + 1 := ⟨gk - 1, by omega⟩
        obtain ⟨s, hs⟩ : ∃ s, l[k]? = some s := ⟨l[k], List.getElem?_eq_getElem hlt⟩
        obtain ⟨b, off, rfl, hb, hc⟩ := HC.out k s hs
        have hsl := HT.out s (List.mem_of_getElem? hs)
        have ts := text_size s
        have hdr : l.drop k = s :: l.drop (k + 1) := by
          rw [List.drop_eq_getElem_cons hlt]
          rw [List.getElem?_eq_getElem hlt] at hs
          rw [Option.some.inj hs]
        have hK := HK.out
        rw [hdr, List.all_cons] at hK
        by_cases h100 : (100 : Int) < (s.length : Int)
        · have hX : R = false := by rw [hK, decide_eq_false (by omega)]; rfl
          subst hX
          clear hK HK hdr hs
          go_wp2_with fail
          go_ret
          exact ⟨rfl, Below.refl _ _⟩
        · have HK2 : Hid (R = (l.drop (k + 1)).all fun t => decide (t.length ≤ 100)) := by show _ = _; rw [hK, decide_eq_true (by omega)]; rfl
          clear hK HK hdr hs
          go_wp2_with fail
          go_roundg g'
          case measure => omega
          case rel => exact ⟨k + 1, by omega, by go_num, rfl, HK2.out⟩
      · have hX : R = true := by rw [HK.out, List.drop_eq_nil_of_le (by omega)]; rfl
        subst hX
        clear HK
        go_wp2_with fail
        go_ret
        exact ⟨rfl, Below.refl _ _⟩
set_option maxRecDepth 100000 in
set_option maxHeartbeats 4000000 in
theorem rholds_any (v : Value) (l : List (List UInt8)) (s : List UInt8) (w : World) (hv : SRow w v l) (hl : l.length ≤ 1000000) :
    Calls Tryz.prog 35 #[v, .string ⟨s.toArray⟩] w fun e w' => e = .returned (.bool (decide (s ∈ l))) ∧ w = w' := by
  obtain ⟨ao, cap, rfl, hcap, ⟨hcm, _⟩, hcell⟩ := hv
  have HC := Lib.hid hcell
  obtain ⟨R, hR⟩ : ∃ R, decide (s ∈ l) = R := ⟨_, rfl⟩
  rw [hR]
  have HR : Hid (R = decide (s ∈ l.drop 0)) := by show _ = _; rw [← hR]; rfl
  clear hcell hR
  go_enter Tryz.func35, Tryz.ntmps35
  go_wp2_with fail
  go_loopg [9] l.length (fun g9 s9 wr => ∃ k : Nat, k + g9 = l.length ∧ s9 = .int .i64 (k : Int) ∧ w = wr ∧ Hid (R = decide (s ∈ l.drop k)))
  case atStart => exact ⟨0, by omega, rfl, rfl, HR.out⟩
  case round =>
    obtain ⟨k, hk, rfl, hw, HK⟩ := hrel
    subst hw
    clear HR
    by_cases hlt : k < l.length
    · obtain ⟨g', rfl⟩ : ∃ g', gk = g' + 1 := ⟨gk - 1, by omega⟩
      obtain ⟨t, ht⟩ : ∃ t, l[k]? = some t := ⟨l[k], List.getElem?_eq_getElem hlt⟩
      obtain ⟨b, off, rfl, hb, hc⟩ := HC.out k t ht
      have hdr : l.drop k = t :: l.drop (k + 1) := by
        rw [List.drop_eq_getElem_cons hlt]
        rw [List.getElem?_eq_getElem hlt] at ht
        rw [Option.some.inj ht]
      have hK := HK.out
      rw [hdr] at hK
      by_cases he : t = s
      · subst he
        have hX : R = true := by rw [hK]; simp
        subst hX
        clear hK HK hdr ht
        go_wp2_with fail
        go_ret
        exact ⟨rfl, rfl⟩
      · have HK2 : Hid (R = decide (s ∈ l.drop (k + 1))) := by
          show _ = _
          rw [hK]
          have : ¬ s = t := fun e => he e.symm
          simp [this]
        have n5 : (t == s) = false := by rw [beq_eq_false_iff_ne]; exact he
        clear hK HK hdr ht
        go_wp2_with fail
        go_roundg g'
        case measure => omega
        case rel => exact ⟨k + 1, by omega, by go_num, rfl, HK2.out⟩
    · have hX : R = false := by rw [HK.out, List.drop_eq_nil_of_le (by omega)]; simp
      subst hX
      clear HK
      go_wp2_with fail
      go_ret
      exact ⟨rfl, rfl⟩
end Go.Proofs.YtcahhnjponeeeaaGreatDoor
namespace Go.Proofs.YtcahhnjponeeeaaGreatDoor
open Go.RowKit Go.Shelf Go.Sort
set_option linter.unusedSimpArgs false
set_option maxRecDepth 100000 in
set_option maxHeartbeats 4000000 in
/-- the closure that Found makes: whether the key's text stands in some letters -/
theorem rfound1_any (s tx : List UInt8) (X : Nat) (x0 x1 x3 x4 x5 : Value) (w : World) (hX : w.heap[X]? = some (.cells #[x0, x1, .string ⟨tx.toArray⟩, x3, x4, x5] 32 (0, 0))) (hs : s.length ≤ 100000000) (ht : tx.length ≤ 100000000) (hM : MaxL w) :
    Calls Tryz.prog 31 #[.string ⟨s.toArray⟩, .pointer (some ⟨X, 0, none⟩)] w fun e w' => e = .returned (.bool (hasK s tx)) ∧ Below w.heap.size w w' := by
  have c1 := fun W => rsmall_any s W (by omega)
  have c2 := fun W => rsmall_any tx W (by omega)
  have hsl := small_len s
  have cC : ∀ W, MaxL W → Calls Tryz.prog 32 #[.string ⟨(smallL s).toArray⟩, .string ⟨(smallL tx).toArray⟩] W fun e w' => e = .returned (.bool (Lib.contains (smallL s) (smallL tx))) ∧ w' = W := fun W hW => by
    obtain ⟨m, hm⟩ := hW
    have := Tryz.strings_Contains ⟨(smallL s).toArray⟩ ⟨(smallL tx).toArray⟩ m W (by rw [text_size]; omega) hm
    simpa using this
  have HM := Lib.hid hM
  have HX : Hid (hasK s tx = Lib.contains (smallL s) (smallL tx)) := Lib.hid rfl
  generalize Lib.contains (smallL s) (smallL tx) = R at cC HX
  generalize smallL s = A at c1 cC hsl
  generalize smallL tx = B at c2 cC
  have hb := Below.refl w.heap.size w
  have hb := hb.drew
  have XX := Lib.hid hX
  have KEEP := Lib.hid (show ∀ W, Below w.heap.size w W → W.cell? ⟨X, 2, none⟩ = some (.string ⟨tx.toArray⟩) ∧ MaxL W from fun W h => ⟨(six_cells' (below_same h XX.out)).2.2.1, MaxL.below HM.out h⟩)
  clear hM hsl hX
  go_enter Tryz.func31, Tryz.ntmps31
  go_upto_region 1 with fail
  go_region_held3 (fun W => W.cell? ⟨X, 2, none⟩ = some (.string ⟨tx.toArray⟩) ∧ MaxL W)
    (first | exact KEEP.out _ hb)
    (first
      | (go_at_call 33; with_reducible refine (c1 _).mono ?_; rintro e w2 ⟨rfl, h⟩; have hb := hb.trans (h.mono hb.size))
      | (go_at_call 33; with_reducible refine (c2 _).mono ?_; rintro e w2 ⟨rfl, h⟩; have hb := hb.trans (h.mono hb.size))
      | (go_at_call 32; with_reducible refine (cC _ (MaxL.below HM.out hb)).mono ?_; rintro e w3 ⟨rfl, hw3⟩; rw [hw3]; clear hw3))
  go_wp2_with fail
  go_ret
  exact ⟨by rw [HX.out]; rfl, hb⟩
/-- the world in which Found begins its work -/
structure FndW (w w1 : World) (a b c d e f u fv dy tx : Value) : Prop where
  below : Below w.heap.size w w1
  k : w1.heap[w.heap.size]? = some (.cells #[a, b, c, d, e, f] 32 (0, 0))
  l : w1.heap[w.heap.size + 1]? = some (.cells #[u, fv, dy, tx] 24 (0, 0))
theorem fndW_at (w : World) (a b c d e f u fv dy tx : Value) : FndW w ((w.alloc (.cells #[a, b, c, d, e, f] 32)).alloc (.cells #[u, fv, dy, tx] 24)) a b c d e f u fv dy tx := by
  have s1 := alloc_size w (.cells #[a, b, c, d, e, f] 32)
  have k1 := World.heap_alloc_new w (.cells #[a, b, c, d, e, f] 32)
  have b1 := (Below.refl w.heap.size w).alloc (Nat.le_refl _) (.cells #[a, b, c, d, e, f] 32)
  generalize w.alloc (.cells #[a, b, c, d, e, f] 32) = w1 at *
  have l2 := World.heap_alloc_new w1 (.cells #[u, fv, dy, tx] 24)
  have k2 := alloc_same (x := .cells #[u, fv, dy, tx] 24) k1
  have b2 := b1.alloc (by omega) (.cells #[u, fv, dy, tx] 24)
  rw [s1] at l2
  exact ⟨b2, k2, l2⟩
set_option maxRecDepth 100000 in
set_option maxHeartbeats 8000000 in
theorem found_all (sv kv : Value) (name text : List UInt8) (n : Int) (fv : Value) (x : LetK) (w : World) (hx : x.text.length ≤ 9000) (hM : MaxL w) :
    Calls Tryz.prog 11 #[.agg #[.int .i64 1, .string ⟨name.toArray⟩, .string ⟨text.toArray⟩, .int .i64 n, sv, kv], .agg #[.int .i64 x.uid, fv, .int .i64 x.day, .string ⟨x.text.toArray⟩], .int .i64 x.which, .int .i64 x.many, .int .i64 x.greatest] w fun e w' => e = .returned (.bool (true)) ∧ Below w.heap.size w w' := by
  have hw := fndW_at w (.int .i64 1) (.string ⟨name.toArray⟩) (.string ⟨text.toArray⟩) (.int .i64 n) sv kv (.int .i64 x.uid) fv (.int .i64 x.day) (.string ⟨x.text.toArray⟩)
  have cS := rsplit_any x.text _ (by omega) (MaxL.below hM hw.below)
  have HM := Lib.hid (MaxL.below hM hw.below)
  obtain ⟨SA, hSA⟩ : ∃ SA, (splitHd x.text).1 = SA := ⟨_, rfl⟩
  obtain ⟨SB, hSB⟩ : ∃ SB, (splitHd x.text).2 = SB := ⟨_, rfl⟩
  rw [hSA, hSB] at cS
  obtain ⟨k0, k1, k2, k3, k4, k5⟩ := six_cells' hw.k
  obtain ⟨l0, l1, l2, l3⟩ := four_cells hw.l
  have Y := Lib.hid hw.below
  have KK := Lib.hid hw.k
  have LL := Lib.hid hw.l
  clear hw hM
  go_enter Tryz.func11, Tryz.ntmps11
  go_upto_region 1 with fail
  generalize ((w.alloc (.cells #[.int .i64 1, .string ⟨name.toArray⟩, .string ⟨text.toArray⟩, .int .i64 n, sv, kv] 32)).alloc (.cells #[.int .i64 x.uid, fv, .int .i64 x.day, .string ⟨x.text.toArray⟩] 24)) = w1 at *
  go_wp2_with (go_at_call 34; go_loud (((with_reducible refine cS.mono ?_); rintro e w2 ⟨rfl, h⟩; have y := Y.out.trans (h.mono Y.out.size); clear k0 k1 k2 k3 k4 k5 l0 l1 l2 l3; obtain ⟨k0, k1, k2, k3, k4, k5⟩ := six_cells' (below_same h KK.out); obtain ⟨l0, l1, l2, l3⟩ := four_cells (below_same h LL.out))))
  go_ret
  exact ⟨rfl, y⟩
set_option maxRecDepth 100000 in
set_option maxHeartbeats 8000000 in
theorem found_larger (sv kv : Value) (name text : List UInt8) (n : Int) (fv : Value) (x : LetK) (w : World) (hx : x.text.length ≤ 9000) (hM : MaxL w) :
    Calls Tryz.prog 11 #[.agg #[.int .i64 6, .string ⟨name.toArray⟩, .string ⟨text.toArray⟩, .int .i64 n, sv, kv], .agg #[.int .i64 x.uid, fv, .int .i64 x.day, .string ⟨x.text.toArray⟩], .int .i64 x.which, .int .i64 x.many, .int .i64 x.greatest] w fun e w' => e = .returned (.bool (decide (n < (x.text.length : Int)))) ∧ Below w.heap.size w w' := by
  have hw := fndW_at w (.int .i64 6) (.string ⟨name.toArray⟩) (.string ⟨text.toArray⟩) (.int .i64 n) sv kv (.int .i64 x.uid) fv (.int .i64 x.day) (.string ⟨x.text.toArray⟩)
  have cS := rsplit_any x.text _ (by omega) (MaxL.below hM hw.below)
  have HM := Lib.hid (MaxL.below hM hw.below)
  obtain ⟨SA, hSA⟩ : ∃ SA, (splitHd x.text).1 = SA := ⟨_, rfl⟩
  obtain ⟨SB, hSB⟩ : ∃ SB, (splitHd x.text).2 = SB := ⟨_, rfl⟩
  rw [hSA, hSB] at cS
  obtain ⟨k0, k1, k2, k3, k4, k5⟩ := six_cells' hw.k
  obtain ⟨l0, l1, l2, l3⟩ := four_cells hw.l
  have Y := Lib.hid hw.below
  have KK := Lib.hid hw.k
  have LL := Lib.hid hw.l
  clear hw hM
  go_enter Tryz.func11, Tryz.ntmps11
  go_upto_region 1 with fail
  generalize ((w.alloc (.cells #[.int .i64 6, .string ⟨name.toArray⟩, .string ⟨text.toArray⟩, .int .i64 n, sv, kv] 32)).alloc (.cells #[.int .i64 x.uid, fv, .int .i64 x.day, .string ⟨x.text.toArray⟩] 24)) = w1 at *
  go_wp2_with (go_at_call 34; go_loud (((with_reducible refine cS.mono ?_); rintro e w2 ⟨rfl, h⟩; have y := Y.out.trans (h.mono Y.out.size); clear k0 k1 k2 k3 k4 k5 l0 l1 l2 l3; obtain ⟨k0, k1, k2, k3, k4, k5⟩ := six_cells' (below_same h KK.out); obtain ⟨l0, l1, l2, l3⟩ := four_cells (below_same h LL.out))))
  go_ret
  exact ⟨rfl, y⟩
set_option maxRecDepth 100000 in
set_option maxHeartbeats 8000000 in
theorem found_smaller (sv kv : Value) (name text : List UInt8) (n : Int) (fv : Value) (x : LetK) (w : World) (hx : x.text.length ≤ 9000) (hM : MaxL w) :
    Calls Tryz.prog 11 #[.agg #[.int .i64 7, .string ⟨name.toArray⟩, .string ⟨text.toArray⟩, .int .i64 n, sv, kv], .agg #[.int .i64 x.uid, fv, .int .i64 x.day, .string ⟨x.text.toArray⟩], .int .i64 x.which, .int .i64 x.many, .int .i64 x.greatest] w fun e w' => e = .returned (.bool (decide ((x.text.length : Int) < n))) ∧ Below w.heap.size w w' := by
  have hw := fndW_at w (.int .i64 7) (.string ⟨name.toArray⟩) (.string ⟨text.toArray⟩) (.int .i64 n) sv kv (.int .i64 x.uid) fv (.int .i64 x.day) (.string ⟨x.text.toArray⟩)
  have cS := rsplit_any x.text _ (by omega) (MaxL.below hM hw.below)
  have HM := Lib.hid (MaxL.below hM hw.below)
  obtain ⟨SA, hSA⟩ : ∃ SA, (splitHd x.text).1 = SA := ⟨_, rfl⟩
  obtain ⟨SB, hSB⟩ : ∃ SB, (splitHd x.text).2 = SB := ⟨_, rfl⟩
  rw [hSA, hSB] at cS
  obtain ⟨k0, k1, k2, k3, k4, k5⟩ := six_cells' hw.k
  obtain ⟨l0, l1, l2, l3⟩ := four_cells hw.l
  have Y := Lib.hid hw.below
  have KK := Lib.hid hw.k
  have LL := Lib.hid hw.l
  clear hw hM
  go_enter Tryz.func11, Tryz.ntmps11
  go_upto_region 1 with fail
  generalize ((w.alloc (.cells #[.int .i64 7, .string ⟨name.toArray⟩, .string ⟨text.toArray⟩, .int .i64 n, sv, kv] 32)).alloc (.cells #[.int .i64 x.uid, fv, .int .i64 x.day, .string ⟨x.text.toArray⟩] 24)) = w1 at *
  go_wp2_with (go_at_call 34; go_loud (((with_reducible refine cS.mono ?_); rintro e w2 ⟨rfl, h⟩; have y := Y.out.trans (h.mono Y.out.size); clear k0 k1 k2 k3 k4 k5 l0 l1 l2 l3; obtain ⟨k0, k1, k2, k3, k4, k5⟩ := six_cells' (below_same h KK.out); obtain ⟨l0, l1, l2, l3⟩ := four_cells (below_same h LL.out))))
  go_ret
  exact ⟨rfl, y⟩
set_option maxRecDepth 100000 in
set_option maxHeartbeats 8000000 in
theorem found_before (sv kv : Value) (name text : List UInt8) (n : Int) (fv : Value) (x : LetK) (w : World) (hx : x.text.length ≤ 9000) (hM : MaxL w) :
    Calls Tryz.prog 11 #[.agg #[.int .i64 8, .string ⟨name.toArray⟩, .string ⟨text.toArray⟩, .int .i64 n, sv, kv], .agg #[.int .i64 x.uid, fv, .int .i64 x.day, .string ⟨x.text.toArray⟩], .int .i64 x.which, .int .i64 x.many, .int .i64 x.greatest] w fun e w' => e = .returned (.bool (decide (x.day < n))) ∧ Below w.heap.size w w' := by
  have hw := fndW_at w (.int .i64 8) (.string ⟨name.toArray⟩) (.string ⟨text.toArray⟩) (.int .i64 n) sv kv (.int .i64 x.uid) fv (.int .i64 x.day) (.string ⟨x.text.toArray⟩)
  have cS := rsplit_any x.text _ (by omega) (MaxL.below hM hw.below)
  have HM := Lib.hid (MaxL.below hM hw.below)
  obtain ⟨SA, hSA⟩ : ∃ SA, (splitHd x.text).1 = SA := ⟨_, rfl⟩
  obtain ⟨SB, hSB⟩ : ∃ SB, (splitHd x.text).2 = SB := ⟨_, rfl⟩
  rw [hSA, hSB] at cS
  obtain ⟨k0, k1, k2, k3, k4, k5⟩ := six_cells' hw.k
  obtain ⟨l0, l1, l2, l3⟩ := four_cells hw.l
  have Y := Lib.hid hw.below
  have KK := Lib.hid hw.k
  have LL := Lib.hid hw.l
  clear hw hM
  go_enter Tryz.func11, Tryz.ntmps11
  go_upto_region 1 with fail
  generalize ((w.alloc (.cells #[.int .i64 8, .string ⟨name.toArray⟩, .string ⟨text.toArray⟩, .int .i64 n, sv, kv] 32)).alloc (.cells #[.int .i64 x.uid, fv, .int .i64 x.day, .string ⟨x.text.toArray⟩] 24)) = w1 at *
  go_wp2_with (go_at_call 34; go_loud (((with_reducible refine cS.mono ?_); rintro e w2 ⟨rfl, h⟩; have y := Y.out.trans (h.mono Y.out.size); clear k0 k1 k2 k3 k4 k5 l0 l1 l2 l3; obtain ⟨k0, k1, k2, k3, k4, k5⟩ := six_cells' (below_same h KK.out); obtain ⟨l0, l1, l2, l3⟩ := four_cells (below_same h LL.out))))
  go_ret
  exact ⟨rfl, y⟩
set_option maxRecDepth 100000 in
set_option maxHeartbeats 8000000 in
theorem found_on (sv kv : Value) (name text : List UInt8) (n : Int) (fv : Value) (x : LetK) (w : World) (hx : x.text.length ≤ 9000) (hM : MaxL w) :
    Calls Tryz.prog 11 #[.agg #[.int .i64 9, .string ⟨name.toArray⟩, .string ⟨text.toArray⟩, .int .i64 n, sv, kv], .agg #[.int .i64 x.uid, fv, .int .i64 x.day, .string ⟨x.text.toArray⟩], .int .i64 x.which, .int .i64 x.many, .int .i64 x.greatest] w fun e w' => e = .returned (.bool (decide (x.day = n))) ∧ Below w.heap.size w w' := by
  have hw := fndW_at w (.int .i64 9) (.string ⟨name.toArray⟩) (.string ⟨text.toArray⟩) (.int .i64 n) sv kv (.int .i64 x.uid) fv (.int .i64 x.day) (.string ⟨x.text.toArray⟩)
  have cS := rsplit_any x.text _ (by omega) (MaxL.below hM hw.below)
  have HM := Lib.hid (MaxL.below hM hw.below)
  obtain ⟨SA, hSA⟩ : ∃ SA, (splitHd x.text).1 = SA := ⟨_, rfl⟩
  obtain ⟨SB, hSB⟩ : ∃ SB, (splitHd x.text).2 = SB := ⟨_, rfl⟩
  rw [hSA, hSB] at cS
  obtain ⟨k0, k1, k2, k3, k4, k5⟩ := six_cells' hw.k
  obtain ⟨l0, l1, l2, l3⟩ := four_cells hw.l
  have Y := Lib.hid hw.below
  have KK := Lib.hid hw.k
  have LL := Lib.hid hw.l
  clear hw hM
  go_enter Tryz.func11, Tryz.ntmps11
  go_upto_region 1 with fail
  generalize ((w.alloc (.cells #[.int .i64 9, .string ⟨name.toArray⟩, .string ⟨text.toArray⟩, .int .i64 n, sv, kv] 32)).alloc (.cells #[.int .i64 x.uid, fv, .int .i64 x.day, .string ⟨x.text.toArray⟩] 24)) = w1 at *
  go_wp2_with (go_at_call 34; go_loud (((with_reducible refine cS.mono ?_); rintro e w2 ⟨rfl, h⟩; have y := Y.out.trans (h.mono Y.out.size); clear k0 k1 k2 k3 k4 k5 l0 l1 l2 l3; obtain ⟨k0, k1, k2, k3, k4, k5⟩ := six_cells' (below_same h KK.out); obtain ⟨l0, l1, l2, l3⟩ := four_cells (below_same h LL.out))))
  go_ret
  exact ⟨rfl, y⟩
set_option maxRecDepth 100000 in
set_option maxHeartbeats 8000000 in
theorem found_since (sv kv : Value) (name text : List UInt8) (n : Int) (fv : Value) (x : LetK) (w : World) (hx : x.text.length ≤ 9000) (hM : MaxL w) :
    Calls Tryz.prog 11 #[.agg #[.int .i64 10, .string ⟨name.toArray⟩, .string ⟨text.toArray⟩, .int .i64 n, sv, kv], .agg #[.int .i64 x.uid, fv, .int .i64 x.day, .string ⟨x.text.toArray⟩], .int .i64 x.which, .int .i64 x.many, .int .i64 x.greatest] w fun e w' => e = .returned (.bool (decide (n ≤ x.day))) ∧ Below w.heap.size w w' := by
  have hd : decide (n ≤ x.day) = !decide (x.day < n) := by
    by_cases h : x.day < n
    · rw [decide_eq_true h, decide_eq_false (by omega)]; rfl
    · rw [decide_eq_false h, decide_eq_true (by omega)]; rfl
  rw [hd]
  clear hd
  have hw := fndW_at w (.int .i64 10) (.string ⟨name.toArray⟩) (.string ⟨text.toArray⟩) (.int .i64 n) sv kv (.int .i64 x.uid) fv (.int .i64 x.day) (.string ⟨x.text.toArray⟩)
  have cS := rsplit_any x.text _ (by omega) (MaxL.below hM hw.below)
  have HM := Lib.hid (MaxL.below hM hw.below)
  obtain ⟨SA, hSA⟩ : ∃ SA, (splitHd x.text).1 = SA := ⟨_, rfl⟩
  obtain ⟨SB, hSB⟩ : ∃ SB, (splitHd x.text).2 = SB := ⟨_, rfl⟩
  rw [hSA, hSB] at cS
  obtain ⟨k0, k1, k2, k3, k4, k5⟩ := six_cells' hw.k
  obtain ⟨l0, l1, l2, l3⟩ := four_cells hw.l
  have Y := Lib.hid hw.below
  have KK := Lib.hid hw.k
  have LL := Lib.hid hw.l
  clear hw hM
  go_enter Tryz.func11, Tryz.ntmps11
  go_upto_region 1 with fail
  generalize ((w.alloc (.cells #[.int .i64 10, .string ⟨name.toArray⟩, .string ⟨text.toArray⟩, .int .i64 n, sv, kv] 32)).alloc (.cells #[.int .i64 x.uid, fv, .int .i64 x.day, .string ⟨x.text.toArray⟩] 24)) = w1 at *
  go_wp2_with (go_at_call 34; go_loud (((with_reducible refine cS.mono ?_); rintro e w2 ⟨rfl, h⟩; have y := Y.out.trans (h.mono Y.out.size); clear k0 k1 k2 k3 k4 k5 l0 l1 l2 l3; obtain ⟨k0, k1, k2, k3, k4, k5⟩ := six_cells' (below_same h KK.out); obtain ⟨l0, l1, l2, l3⟩ := four_cells (below_same h LL.out))))
  go_ret
  exact ⟨rfl, y⟩
set_option maxRecDepth 100000 in
set_option maxHeartbeats 8000000 in
theorem found_flag (sv kv : Value) (name text : List UInt8) (n : Int) (fv : Value) (x : LetK) (w : World) (hx : x.text.length ≤ 9000) (hM : MaxL w) (hf : SRow w fv x.flags) (hl : x.flags.length ≤ 1000000) :
    Calls Tryz.prog 11 #[.agg #[.int .i64 2, .string ⟨name.toArray⟩, .string ⟨text.toArray⟩, .int .i64 n, sv, kv], .agg #[.int .i64 x.uid, fv, .int .i64 x.day, .string ⟨x.text.toArray⟩], .int .i64 x.which, .int .i64 x.many, .int .i64 x.greatest] w fun e w' => e = .returned (.bool (decide (name ∈ x.flags))) ∧ Below w.heap.size w w' := by
  have hw := fndW_at w (.int .i64 2) (.string ⟨name.toArray⟩) (.string ⟨text.toArray⟩) (.int .i64 n) sv kv (.int .i64 x.uid) fv (.int .i64 x.day) (.string ⟨x.text.toArray⟩)
  have cS := rsplit_any x.text _ (by omega) (MaxL.below hM hw.below)
  have HM := Lib.hid (MaxL.below hM hw.below)
  have cH := fun W (hW : Below w.heap.size w W) => rholds_any fv x.flags name W (hf.below hW) hl
  generalize decide (name ∈ x.flags) = r at *
  clear hf
  obtain ⟨SA, hSA⟩ : ∃ SA, (splitHd x.text).1 = SA := ⟨_, rfl⟩
  obtain ⟨SB, hSB⟩ : ∃ SB, (splitHd x.text).2 = SB := ⟨_, rfl⟩
  rw [hSA, hSB] at cS
  obtain ⟨k0, k1, k2, k3, k4, k5⟩ := six_cells' hw.k
  obtain ⟨l0, l1, l2, l3⟩ := four_cells hw.l
  have Y := Lib.hid hw.below
  have KK := Lib.hid hw.k
  have LL := Lib.hid hw.l
  clear hw hM
  go_enter Tryz.func11, Tryz.ntmps11
  go_upto_region 1 with fail
  generalize ((w.alloc (.cells #[.int .i64 2, .string ⟨name.toArray⟩, .string ⟨text.toArray⟩, .int .i64 n, sv, kv] 32)).alloc (.cells #[.int .i64 x.uid, fv, .int .i64 x.day, .string ⟨x.text.toArray⟩] 24)) = w1 at *
  go_wp2_with (first
    | (go_at_call 34; go_loud (((with_reducible refine cS.mono ?_); rintro e w2 ⟨rfl, h⟩; have y := Y.out.trans (h.mono Y.out.size); clear k0 k1 k2 k3 k4 k5 l0 l1 l2 l3; obtain ⟨k0, k1, k2, k3, k4, k5⟩ := six_cells' (below_same h KK.out); obtain ⟨l0, l1, l2, l3⟩ := four_cells (below_same h LL.out); have cH1 := cH w2 y)))
    | (go_at_call 35; go_loud (((with_reducible refine cH1.mono ?_); rintro e w3 ⟨rfl, h3⟩; rw [← h3]; clear h3))))
  go_ret
  exact ⟨rfl, y⟩
set_option maxRecDepth 100000 in
set_option maxHeartbeats 8000000 in
theorem found_text (sv kv : Value) (name text : List UInt8) (n : Int) (fv : Value) (x : LetK) (w : World) (hx : x.text.length ≤ 9000) (hM : MaxL w) (ht : text.length ≤ 2000000) :
    Calls Tryz.prog 11 #[.agg #[.int .i64 5, .string ⟨name.toArray⟩, .string ⟨text.toArray⟩, .int .i64 n, sv, kv], .agg #[.int .i64 x.uid, fv, .int .i64 x.day, .string ⟨x.text.toArray⟩], .int .i64 x.which, .int .i64 x.many, .int .i64 x.greatest] w fun e w' => e = .returned (.bool (hasK x.text text)) ∧ Below w.heap.size w w' := by
  have hw := fndW_at w (.int .i64 5) (.string ⟨name.toArray⟩) (.string ⟨text.toArray⟩) (.int .i64 n) sv kv (.int .i64 x.uid) fv (.int .i64 x.day) (.string ⟨x.text.toArray⟩)
  have cS := rsplit_any x.text _ (by omega) (MaxL.below hM hw.below)
  have HM := Lib.hid (MaxL.below hM hw.below)
  have cH := fun W hW (hk : W.heap[w.heap.size]? = some (.cells #[.int .i64 5, .string ⟨name.toArray⟩, .string ⟨text.toArray⟩, .int .i64 n, sv, kv] 32 (0, 0))) => rfound1_any x.text text w.heap.size _ _ _ _ _ W hk (by omega) (by omega) hW
  generalize hasK x.text text = r at *
  obtain ⟨SA, hSA⟩ : ∃ SA, (splitHd x.text).1 = SA := ⟨_, rfl⟩
  obtain ⟨SB, hSB⟩ : ∃ SB, (splitHd x.text).2 = SB := ⟨_, rfl⟩
  rw [hSA, hSB] at cS
  obtain ⟨k0, k1, k2, k3, k4, k5⟩ := six_cells' hw.k
  obtain ⟨l0, l1, l2, l3⟩ := four_cells hw.l
  have Y := Lib.hid hw.below
  have KK := Lib.hid hw.k
  have LL := Lib.hid hw.l
  clear hw hM
  go_enter Tryz.func11, Tryz.ntmps11
  go_upto_region 1 with fail
  generalize ((w.alloc (.cells #[.int .i64 5, .string ⟨name.toArray⟩, .string ⟨text.toArray⟩, .int .i64 n, sv, kv] 32)).alloc (.cells #[.int .i64 x.uid, fv, .int .i64 x.day, .string ⟨x.text.toArray⟩] 24)) = w1 at *
  go_wp2_with (first
    | (go_at_call 34; go_loud (((with_reducible refine cS.mono ?_); rintro e w2 ⟨rfl, h⟩; have y := Y.out.trans (h.mono Y.out.size); clear k0 k1 k2 k3 k4 k5 l0 l1 l2 l3; obtain ⟨k0, k1, k2, k3, k4, k5⟩ := six_cells' (below_same h KK.out); obtain ⟨l0, l1, l2, l3⟩ := four_cells (below_same h LL.out); have cH1 := cH w2 (MaxL.below HM.out h) (below_same h KK.out))))
    | (go_at_call 31; go_loud (((with_reducible refine cH1.mono ?_); rintro e w3 ⟨rfl, h3⟩; have y3 := y.trans (h3.mono y.size)))))
  go_ret
  exact ⟨rfl, y3⟩
set_option maxRecDepth 100000 in
set_option maxHeartbeats 8000000 in
theorem found_body (sv kv : Value) (name text : List UInt8) (n : Int) (fv : Value) (x : LetK) (w : World) (hx : x.text.length ≤ 9000) (hM : MaxL w) (ht : text.length ≤ 2000000) :
    Calls Tryz.prog 11 #[.agg #[.int .i64 4, .string ⟨name.toArray⟩, .string ⟨text.toArray⟩, .int .i64 n, sv, kv], .agg #[.int .i64 x.uid, fv, .int .i64 x.day, .string ⟨x.text.toArray⟩], .int .i64 x.which, .int .i64 x.many, .int .i64 x.greatest] w fun e w' => e = .returned (.bool (hasK (splitHd x.text).2 text)) ∧ Below w.heap.size w w' := by
  have hw := fndW_at w (.int .i64 4) (.string ⟨name.toArray⟩) (.string ⟨text.toArray⟩) (.int .i64 n) sv kv (.int .i64 x.uid) fv (.int .i64 x.day) (.string ⟨x.text.toArray⟩)
  have cS := rsplit_any x.text _ (by omega) (MaxL.below hM hw.below)
  have HM := Lib.hid (MaxL.below hM hw.below)
  have cH := fun W hW (hk : W.heap[w.heap.size]? = some (.cells #[.int .i64 4, .string ⟨name.toArray⟩, .string ⟨text.toArray⟩, .int .i64 n, sv, kv] 32 (0, 0))) => rfound1_any (splitHd x.text).2 text w.heap.size _ _ _ _ _ W hk (by have := splitHd_len2 x.text; omega) (by omega) hW
  obtain ⟨SA, hSA⟩ : ∃ SA, (splitHd x.text).1 = SA := ⟨_, rfl⟩
  obtain ⟨SB, hSB⟩ : ∃ SB, (splitHd x.text).2 = SB := ⟨_, rfl⟩
  rw [hSA, hSB] at cS
  rw [hSB] at cH ⊢
  generalize hasK SB text = r at *
  obtain ⟨k0, k1, k2, k3, k4, k5⟩ := six_cells' hw.k
  obtain ⟨l0, l1, l2, l3⟩ := four_cells hw.l
  have Y := Lib.hid hw.below
  have KK := Lib.hid hw.k
  have LL := Lib.hid hw.l
  clear hw hM
  go_enter Tryz.func11, Tryz.ntmps11
  go_upto_region 1 with fail
  generalize ((w.alloc (.cells #[.int .i64 4, .string ⟨name.toArray⟩, .string ⟨text.toArray⟩, .int .i64 n, sv, kv] 32)).alloc (.cells #[.int .i64 x.uid, fv, .int .i64 x.day, .string ⟨x.text.toArray⟩] 24)) = w1 at *
  go_wp2_with (first
    | (go_at_call 34; go_loud (((with_reducible refine cS.mono ?_); rintro e w2 ⟨rfl, h⟩; have y := Y.out.trans (h.mono Y.out.size); clear k0 k1 k2 k3 k4 k5 l0 l1 l2 l3; obtain ⟨k0, k1, k2, k3, k4, k5⟩ := six_cells' (below_same h KK.out); obtain ⟨l0, l1, l2, l3⟩ := four_cells (below_same h LL.out); have cH1 := cH w2 (MaxL.below HM.out h) (below_same h KK.out))))
    | (go_at_call 31; go_loud (((with_reducible refine cH1.mono ?_); rintro e w3 ⟨rfl, h3⟩; have y3 := y.trans (h3.mono y.size)))))
  go_ret
  exact ⟨rfl, y3⟩
set_option maxRecDepth 100000 in
set_option maxHeartbeats 8000000 in
theorem found_uids (kv : Value) (name text : List UInt8) (n : Int) (fv : Value) (x : LetK) (w : World) (hx : x.text.length ≤ 9000) (hM : MaxL w) (set : List Rg) (sv : Value) (hs : RgRow w sv set) :
    Calls Tryz.prog 11 #[.agg #[.int .i64 11, .string ⟨name.toArray⟩, .string ⟨text.toArray⟩, .int .i64 n, sv, kv], .agg #[.int .i64 x.uid, fv, .int .i64 x.day, .string ⟨x.text.toArray⟩], .int .i64 x.which, .int .i64 x.many, .int .i64 x.greatest] w fun e w' => e = .returned (.bool (hasS set x.uid x.greatest)) ∧ Below w.heap.size w w' := by
  have hw := fndW_at w (.int .i64 11) (.string ⟨name.toArray⟩) (.string ⟨text.toArray⟩) (.int .i64 n) sv kv (.int .i64 x.uid) fv (.int .i64 x.day) (.string ⟨x.text.toArray⟩)
  have cS := rsplit_any x.text _ (by omega) (MaxL.below hM hw.below)
  have HM := Lib.hid (MaxL.below hM hw.below)
  have cH := fun W (hW : Below w.heap.size w W) => inSet_any sv set x.uid x.greatest W (hs.below hW)
  generalize hasS set x.uid x.greatest = r at *
  clear hs
  obtain ⟨SA, hSA⟩ : ∃ SA, (splitHd x.text).1 = SA := ⟨_, rfl⟩
  obtain ⟨SB, hSB⟩ : ∃ SB, (splitHd x.text).2 = SB := ⟨_, rfl⟩
  rw [hSA, hSB] at cS
  obtain ⟨k0, k1, k2, k3, k4, k5⟩ := six_cells' hw.k
  obtain ⟨l0, l1, l2, l3⟩ := four_cells hw.l
  have Y := Lib.hid hw.below
  have KK := Lib.hid hw.k
  have LL := Lib.hid hw.l
  clear hw hM
  go_enter Tryz.func11, Tryz.ntmps11
  go_upto_region 1 with fail
  generalize ((w.alloc (.cells #[.int .i64 11, .string ⟨name.toArray⟩, .string ⟨text.toArray⟩, .int .i64 n, sv, kv] 32)).alloc (.cells #[.int .i64 x.uid, fv, .int .i64 x.day, .string ⟨x.text.toArray⟩] 24)) = w1 at *
  go_wp2_with (first
    | (go_at_call 34; go_loud (((with_reducible refine cS.mono ?_); rintro e w2 ⟨rfl, h⟩; have y := Y.out.trans (h.mono Y.out.size); clear k0 k1 k2 k3 k4 k5 l0 l1 l2 l3; obtain ⟨k0, k1, k2, k3, k4, k5⟩ := six_cells' (below_same h KK.out); obtain ⟨l0, l1, l2, l3⟩ := four_cells (below_same h LL.out); have cH1 := cH w2 y)))
    | (go_at_call 37; go_loud (((with_reducible refine cH1.mono ?_); rintro e w3 ⟨rfl, h3⟩; have y3 := y.trans (h3.mono y.size)))))
  go_ret
  exact ⟨rfl, y3⟩
set_option maxRecDepth 100000 in
set_option maxHeartbeats 8000000 in
theorem found_numbers (kv : Value) (name text : List UInt8) (n : Int) (fv : Value) (x : LetK) (w : World) (hx : x.text.length ≤ 9000) (hM : MaxL w) (set : List Rg) (sv : Value) (hs : RgRow w sv set) :
    Calls Tryz.prog 11 #[.agg #[.int .i64 12, .string ⟨name.toArray⟩, .string ⟨text.toArray⟩, .int .i64 n, sv, kv], .agg #[.int .i64 x.uid, fv, .int .i64 x.day, .string ⟨x.text.toArray⟩], .int .i64 x.which, .int .i64 x.many, .int .i64 x.greatest] w fun e w' => e = .returned (.bool (hasS set x.which x.many)) ∧ Below w.heap.size w w' := by
  have hw := fndW_at w (.int .i64 12) (.string ⟨name.toArray⟩) (.string ⟨text.toArray⟩) (.int .i64 n) sv kv (.int .i64 x.uid) fv (.int .i64 x.day) (.string ⟨x.text.toArray⟩)
  have cS := rsplit_any x.text _ (by omega) (MaxL.below hM hw.below)
  have HM := Lib.hid (MaxL.below hM hw.below)
  have cH := fun W (hW : Below w.heap.size w W) => inSet_any sv set x.which x.many W (hs.below hW)
  generalize hasS set x.which x.many = r at *
  clear hs
  obtain ⟨SA, hSA⟩ : ∃ SA, (splitHd x.text).1 = SA := ⟨_, rfl⟩
  obtain ⟨SB, hSB⟩ : ∃ SB, (splitHd x.text).2 = SB := ⟨_, rfl⟩
  rw [hSA, hSB] at cS
  obtain ⟨k0, k1, k2, k3, k4, k5⟩ := six_cells' hw.k
  obtain ⟨l0, l1, l2, l3⟩ := four_cells hw.l
  have Y := Lib.hid hw.below
  have KK := Lib.hid hw.k
  have LL := Lib.hid hw.l
  clear hw hM
  go_enter Tryz.func11, Tryz.ntmps11
  go_upto_region 1 with fail
  generalize ((w.alloc (.cells #[.int .i64 12, .string ⟨name.toArray⟩, .string ⟨text.toArray⟩, .int .i64 n, sv, kv] 32)).alloc (.cells #[.int .i64 x.uid, fv, .int .i64 x.day, .string ⟨x.text.toArray⟩] 24)) = w1 at *
  go_wp2_with (first
    | (go_at_call 34; go_loud (((with_reducible refine cS.mono ?_); rintro e w2 ⟨rfl, h⟩; have y := Y.out.trans (h.mono Y.out.size); clear k0 k1 k2 k3 k4 k5 l0 l1 l2 l3; obtain ⟨k0, k1, k2, k3, k4, k5⟩ := six_cells' (below_same h KK.out); obtain ⟨l0, l1, l2, l3⟩ := four_cells (below_same h LL.out); have cH1 := cH w2 y)))
    | (go_at_call 37; go_loud (((with_reducible refine cH1.mono ?_); rintro e w3 ⟨rfl, h3⟩; have y3 := y.trans (h3.mono y.size)))))
  go_ret
  exact ⟨rfl, y3⟩
end Go.Proofs.YtcahhnjponeeeaaGreatDoor
namespace Go.Proofs.YtcahhnjponeeeaaGreatDoor
open Go.RowKit Go.Shelf Go.Sort
set_option linter.unusedSimpArgs false
theorem rfields_bad {S : List UInt8} {E : Nat × Nat} (h : fieldsL S = .inl E) (w : World) (hs : S.length ≤ 9000) (hM : MaxL w) (hF : FineG w) : Calls Tryz.prog 36 #[.string ⟨S.toArray⟩] w fun e w' => e = .returned (.tuple #[.slice none 0 0, .agg #[.int .i64 (E.1 : Int), .int .i64 (E.2 : Int)]]) ∧ Below w.heap.size w w' := by
  refine (rfields_any S w hs hM hF).mono ?_
  rw [h]
  rintro e w' ⟨v, rfl, h', hb⟩
  exact ⟨by rw [h'], hb⟩
theorem rfields_good {S : List UInt8} {l : List Fld} (h : fieldsL S = .inr l) (w : World) (hs : S.length ≤ 9000) (hM : MaxL w) (hF : FineG w) : Calls Tryz.prog 36 #[.string ⟨S.toArray⟩] w fun e w' => ∃ ao cap, e = .returned (.tuple #[.slice ao l.length cap, .agg #[.int .i64 0, .int .i64 (-1)]]) ∧ Below w.heap.size w w' ∧ Lens l ∧
    (∀ (j : Nat) (f : Fld), l[j]? = some f → ∃ b off, ao = some ⟨b, off, none⟩ ∧ b < w'.heap.size ∧ w'.cell? ⟨b, off + j * 2, none⟩ = some (.string ⟨f.1.toArray⟩) ∧ w'.cell? ⟨b, off + j * 2 + 1, none⟩ = some (.string ⟨f.2.toArray⟩)) := by
  refine (rfields_any S w hs hM hF).mono ?_
  rw [h]
  rintro e w' ⟨v, rfl, ⟨ao, cap, rfl, hr, hL⟩, hb⟩
  obtain ⟨ao', cap', e, hc⟩ := fld_open hr
  cases e
  exact ⟨ao, cap, rfl, hb, hL, hc⟩
set_option maxRecDepth 100000 in
set_option maxHeartbeats 8000000 in
theorem found_head_bad (sv kv : Value) (name text : List UInt8) (n : Int) (fv : Value) (x : LetK) (w : World) (hx : x.text.length ≤ 9000) (hM : MaxL w) (hF : FineG w) (E : Nat × Nat) (hE : fieldsL x.text = .inl E) :
    Calls Tryz.prog 11 #[.agg #[.int .i64 3, .string ⟨name.toArray⟩, .string ⟨text.toArray⟩, .int .i64 n, sv, kv], .agg #[.int .i64 x.uid, fv, .int .i64 x.day, .string ⟨x.text.toArray⟩], .int .i64 x.which, .int .i64 x.many, .int .i64 x.greatest] w fun e w' => e = .returned (.bool (false)) ∧ Below w.heap.size w w' := by
  have hw := fndW_at w (.int .i64 3) (.string ⟨name.toArray⟩) (.string ⟨text.toArray⟩) (.int .i64 n) sv kv (.int .i64 x.uid) fv (.int .i64 x.day) (.string ⟨x.text.toArray⟩)
  have cS := rsplit_any x.text _ (by omega) (MaxL.below hM hw.below)
  have HM := Lib.hid (MaxL.below hM hw.below)
  have cF := fun W hM hF => rfields_bad hE W hx hM hF
  have HF := Lib.hid (FineG.below hF hw.below)
  clear hE hF
  obtain ⟨SA, hSA⟩ : ∃ SA, (splitHd x.text).1 = SA := ⟨_, rfl⟩
  obtain ⟨SB, hSB⟩ : ∃ SB, (splitHd x.text).2 = SB := ⟨_, rfl⟩
  rw [hSA, hSB] at cS
  obtain ⟨k0, k1, k2, k3, k4, k5⟩ := six_cells' hw.k
  obtain ⟨l0, l1, l2, l3⟩ := four_cells hw.l
  have Y := Lib.hid hw.below
  have KK := Lib.hid hw.k
  have LL := Lib.hid hw.l
  clear hw hM
  go_enter Tryz.func11, Tryz.ntmps11
  go_upto_region 1 with fail
  generalize ((w.alloc (.cells #[.int .i64 3, .string ⟨name.toArray⟩, .string ⟨text.toArray⟩, .int .i64 n, sv, kv] 32)).alloc (.cells #[.int .i64 x.uid, fv, .int .i64 x.day, .string ⟨x.text.toArray⟩] 24)) = w1 at *
  go_upto_region 10 with (first
    | (go_at_call 34; go_loud (((with_reducible refine cS.mono ?_); rintro e w2 ⟨rfl, h⟩; have y := Y.out.trans (h.mono Y.out.size); clear k0 k1 k2 k3 k4 k5 l0 l1 l2 l3; obtain ⟨k0, k1, k2, k3, k4, k5⟩ := six_cells' (below_same h KK.out); obtain ⟨l0, l1, l2, l3⟩ := four_cells (below_same h LL.out); have cF1 := cF w2 (MaxL.below HM.out h) (FineG.below HF.out h))))
    | (go_at_call 36; go_loud (((with_reducible refine cF1.mono ?_); rintro e w3 ⟨rfl, h3⟩; have y3 := y.trans (h3.mono y.size)))))
  have y4 := Lib.hid (y3.alloc y3.size (.cells #[.int .i64 (E.1 : Int), .int .i64 (E.2 : Int)] 50))
  generalize w3.alloc (.cells #[.int .i64 (E.1 : Int), .int .i64 (E.2 : Int)] 50) = w4 at *
  clear k0 k1 k2 k3 k4 k5 l0 l1 l2 l3
  go_wp2_with fail
  go_loopg [49] 0 (fun g s49 wr => s49 = .int .i64 0 ∧ w4 = wr)
  case atStart => exact ⟨rfl, rfl⟩
  case round =>
    obtain ⟨rfl, hw4⟩ := hrel
    subst hw4
    go_wp2_with fail
    go_ret
    exact ⟨rfl, y4.out⟩
set_option maxRecDepth 100000 in
set_option maxHeartbeats 8000000 in
theorem found_head_good (sv kv : Value) (name text : List UInt8) (n : Int) (fv : Value) (x : LetK) (w : World) (hx : x.text.length ≤ 9000) (hM : MaxL w) (ht : text.length ≤ 2000000) (hF : FineG w) (l : List Fld) (hE : fieldsL x.text = .inr l) :
    Calls Tryz.prog 11 #[.agg #[.int .i64 3, .string ⟨name.toArray⟩, .string ⟨text.toArray⟩, .int .i64 n, sv, kv], .agg #[.int .i64 x.uid, fv, .int .i64 x.day, .string ⟨x.text.toArray⟩], .int .i64 x.which, .int .i64 x.many, .int .i64 x.greatest] w fun e w' => e = .returned (.bool (l.any (fun f : Fld => smallL f.1 == name && hasK f.2 text))) ∧ Below w.heap.size w w' := by
  have hw := fndW_at w (.int .i64 3) (.string ⟨name.toArray⟩) (.string ⟨text.toArray⟩) (.int .i64 n) sv kv (.int .i64 x.uid) fv (.int .i64 x.day) (.string ⟨x.text.toArray⟩)
  have cS := rsplit_any x.text _ (by omega) (MaxL.below hM hw.below)
  have HM := Lib.hid (MaxL.below hM hw.below)
  have cF := fun W hM hF => rfields_good hE W hx hM hF
  have HF := Lib.hid (FineG.below hF hw.below)
  obtain ⟨R, hR⟩ : ∃ R, l.any (fun f : Fld => smallL f.1 == name && hasK f.2 text) = R := ⟨_, rfl⟩
  rw [hR]
  have HR := Lib.hid hR
  clear hE hF hR
  obtain ⟨SA, hSA⟩ : ∃ SA, (splitHd x.text).1 = SA := ⟨_, rfl⟩
  obtain ⟨SB, hSB⟩ : ∃ SB, (splitHd x.text).2 = SB := ⟨_, rfl⟩
  rw [hSA, hSB] at cS
  obtain ⟨k0, k1, k2, k3, k4, k5⟩ := six_cells' hw.k
  obtain ⟨l0, l1, l2, l3⟩ := four_cells hw.l
  have Y := Lib.hid hw.below
  have KK := Lib.hid hw.k
  have LL := Lib.hid hw.l
  clear hw hM
  go_enter Tryz.func11, Tryz.ntmps11
  go_upto_region 1 with fail
  generalize ((w.alloc (.cells #[.int .i64 3, .string ⟨name.toArray⟩, .string ⟨text.toArray⟩, .int .i64 n, sv, kv] 32)).alloc (.cells #[.int .i64 x.uid, fv, .int .i64 x.day, .string ⟨x.text.toArray⟩] 24)) = w1 at *
  go_upto_region 10 with (first
    | (go_at_call 34; go_loud (((with_reducible refine cS.mono ?_); rintro e w2 ⟨rfl, h⟩; have y := Y.out.trans (h.mono Y.out.size); clear k0 k1 k2 k3 k4 k5 l0 l1 l2 l3; obtain ⟨k0, k1, k2, k3, k4, k5⟩ := six_cells' (below_same h KK.out); obtain ⟨l0, l1, l2, l3⟩ := four_cells (below_same h LL.out); have cF1 := cF w2 (MaxL.below HM.out h) (FineG.below HF.out h); have HM2 := Lib.hid (MaxL.below HM.out h); have HF2 := Lib.hid (FineG.below HF.out h); have KK2 := Lib.hid (below_same h KK.out))))
    | (go_at_call 36; go_loud (((with_reducible refine cF1.mono ?_); rintro e w3 ⟨ao, cap, rfl, h3, hL, hcell⟩; have y3 := y.trans (h3.mono y.size)))))
  have hb4 := (Below.refl w3.heap.size w3).alloc (Nat.le_refl _) (.cells #[.int .i64 0, .int .i64 (-1)] 50)
  have z4 := World.heap_alloc_new w3 (.cells #[.int .i64 0, .int .i64 (-1)] 50)
  generalize w3.alloc (.cells #[.int .i64 0, .int .i64 (-1)] 50) = w4 at *
  have hb24 := h3.trans (hb4.mono h3.size)
  have M4 := Lib.hid (MaxL.below HM2.out hb24)
  have F4 := Lib.hid (FineG.below HF2.out hb24)
  have K4 := Lib.hid (below_same hb24 KK2.out)
  have Z4 := Lib.hid z4
  have Y4 := Lib.hid (y3.trans (hb4.mono y3.size))
  have HC := Lib.hid (show ∀ (j : Nat) (f : Fld), l[j]? = some f → ∃ b off, ao = some ⟨b, off, none⟩ ∧ b < w4.heap.size ∧ w4.cell? ⟨b, off + j * 2, none⟩ = some (.string ⟨f.1.toArray⟩) ∧ w4.cell? ⟨b, off + j * 2 + 1, none⟩ = some (.string ⟨f.2.toArray⟩) from fun j f hj => by
    obtain ⟨b, off, e, hb, c0, c1⟩ := hcell j f hj
    exact ⟨b, off, e, Nat.lt_of_lt_of_le hb hb4.size, (hb4.cell (p := ⟨b, off + j * 2, none⟩) hb).trans c0, (hb4.cell (p := ⟨b, off + j * 2 + 1, none⟩) hb).trans c1⟩)
  have HL := Lib.hid hL
  have hlm := hL.1
  clear k0 k1 k2 k3 k4 k5 l0 l1 l2 l3 hcell hb4 z4 hb24 hL
  go_wp2_with fail
  go_loopg [49] l.length (fun g s49 wr => ∃ k : Nat, k + g = l.length ∧ s49 = .int .i64 (k : Int) ∧ Below w4.heap.size w4 wr ∧ Hid (R = (l.drop k).any (fun f : Fld => smallL f.1 == name && hasK f.2 text)))
  case atStart => exact ⟨0, by omega, rfl, Below.refl _ _, Lib.hid HR.out.symm⟩
  case round =>
    obtain ⟨k, hk, rfl, hbr, HK⟩ := hrel
    by_cases hlt : k < l.length
    · obtain ⟨g', rfl⟩ : ∃ g', gk = g' + 1 := ⟨gk - 1, by omega⟩
      obtain ⟨f, hf⟩ : ∃ f, l[k]? = some f := ⟨l[k], List.getElem?_eq_getElem hlt⟩
      have hdr : l.drop k = f :: l.drop (k + 1) := by
        rw [List.drop_eq_getElem_cons hlt]
        rw [List.getElem?_eq_getElem hlt] at hf
        rw [Option.some.inj hf]
      have hK := HK.out
      rw [hdr, List.any_cons] at hK
      obtain ⟨b, off, rfl, hb, c0, c1⟩ := HC.out k f hf
      have d0 := (hbr.cell (p := ⟨b, off + k * 2, none⟩) hb).trans c0
      have d1 := (hbr.cell (p := ⟨b, off + k * 2 + 1, none⟩) hb).trans c1
      obtain ⟨hA0, hB0⟩ := HL.out.2 f (List.mem_of_getElem? hf)
      obtain ⟨A0, B0⟩ := f
      dsimp only at d0 d1 hA0 hB0 hK
      have cS := fun W => rsmall_any A0 W (by omega)
      have cH := fun W hM (hk : W.heap[w.heap.size]? = some (.cells #[.int .i64 3, .string ⟨name.toArray⟩, .string ⟨text.toArray⟩, .int .i64 n, sv, kv] 32 (0, 0))) => rfound1_any B0 text w.heap.size _ _ _ _ _ W hk (by omega) (by omega) hM
      obtain ⟨SA0, hSA0⟩ : ∃ s, smallL A0 = s := ⟨_, rfl⟩
      obtain ⟨HB, hHB⟩ : ∃ s, hasK B0 text = s := ⟨_, rfl⟩
      rw [hSA0] at cS hK
      rw [hHB] at cH hK
      have hltz : (k : Int) < (l.length : Int) := by omega
      have HKn := Lib.hid hK
      clear c0 c1 hf hdr hK hSA0 hHB hA0 hB0
      have hb5 := (Below.refl wr.heap.size wr).alloc (Nat.le_refl _) (.cells #[.string ⟨A0.toArray⟩, .string ⟨B0.toArray⟩] 74)
      have z5 := World.heap_alloc_new wr (.cells #[.string ⟨A0.toArray⟩, .string ⟨B0.toArray⟩] 74)
      obtain ⟨w5, hw5⟩ : ∃ w5, wr.alloc (.cells #[.string ⟨A0.toArray⟩, .string ⟨B0.toArray⟩] 74) = w5 := ⟨_, rfl⟩
      rw [hw5] at hb5 z5
      have HW5 := Lib.hid hw5
      have hb45 := hbr.trans (hb5.mono hbr.size)
      have M5 := Lib.hid (MaxL.below M4.out hb45)
      have K5 := Lib.hid (below_same hb45 K4.out)
      have KEEP := Lib.hid (show ∀ W, Below w5.heap.size w5 W → (fun W => W.cell? ⟨w3.heap.size, 0, none⟩ = some (.int .i64 0) ∧ W.cell? ⟨w3.heap.size, 1, none⟩ = some (.int .i64 (-1)) ∧ W.cell? ⟨0, 0, none⟩ = some (.int .i64 0) ∧ W.cell? ⟨0, 1, none⟩ = some (.int .i64 (-1)) ∧ W.cell? ⟨wr.heap.size, 0, none⟩ = some (.string ⟨A0.toArray⟩) ∧ W.cell? ⟨wr.heap.size, 1, none⟩ = some (.string ⟨B0.toArray⟩) ∧ W.cell? ⟨w.heap.size, 1, none⟩ = some (.string ⟨name.toArray⟩)) W from fun W h => by
        have h4 := hb45.trans (h.mono hb45.size)
        obtain ⟨u0, u1⟩ := two_cells (below_same h4 Z4.out)
        obtain ⟨v0, v1⟩ := two_cells (below_same h z5)
        have hf4 := FineG.below F4.out h4
        exact ⟨u0, u1, hf4.1, hf4.2, v0, v1, (six_cells' (below_same h4 K4.out)).2.1⟩)
      have YB := Lib.hid hb45
      clear hw5 hb5 z5 hb45
      go_upto_region 13 with fail
      rw [show wr.alloc (.cells #[.string ⟨A0.toArray⟩, .string ⟨B0.toArray⟩] 74) = w5 from HW5.out]
      by_cases he : SA0 = name
      · subst he
        have hbq : (SA0 == SA0) = true := by simp
        rw [hbq, Bool.true_and] at HKn
        cases HB with
        | true =>
          have yd := (Below.refl w5.heap.size w5).drew
          refine wp_region_held_drew (S := fun W => W.cell? ⟨w3.heap.size, 0, none⟩ = some (.int .i64 0) ∧ W.cell? ⟨w3.heap.size, 1, none⟩ = some (.int .i64 (-1)) ∧ W.cell? ⟨0, 0, none⟩ = some (.int .i64 0) ∧ W.cell? ⟨0, 1, none⟩ = some (.int .i64 (-1)) ∧ W.cell? ⟨wr.heap.size, 0, none⟩ = some (.string ⟨A0.toArray⟩) ∧ W.cell? ⟨wr.heap.size, 1, none⟩ = some (.string ⟨B0.toArray⟩) ∧ W.cell? ⟨w.heap.size, 1, none⟩ = some (.string ⟨SA0.toArray⟩)) (by kernel_rfl) (KEEP.out _ yd) (fun hHeld => ?_)
          generalize w5.drew = wd at *
          refine wpAnyH_take (i := 0) (oi := ⟨_, _, _, _, _, _⟩) (v := ?hv1) rfl (by kernel_rfl) (by kernel_rfl) (by kernel_rfl) (fun _ _ _ h => h) (Or.inl ⟨by rfl, ?hy1⟩) hHeld ?hr1
          case hy1 => (intro W hSw; (try dsimp only at hSw); go_simp; try with_reducible rfl)
          try simp only [Act.put, List.setIfInBounds_toArray, List.set_cons_zero, List.set_cons_succ]
          refine wpAnyH_take (i := 1) (oi := ⟨_, _, _, _, _, _⟩) (v := ?hv2) rfl (by kernel_rfl) (by kernel_rfl) (by kernel_rfl) (fun _ _ _ h => h) (Or.inl ⟨by rfl, ?hy2⟩) hHeld ?hr2
          case hy2 => (intro W hSw; (try dsimp only at hSw); go_simp; try with_reducible rfl)
          try simp only [Act.put, List.setIfInBounds_toArray, List.set_cons_zero, List.set_cons_succ]
          refine wpAnyH_take (i := 2) (oi := ⟨_, _, _, _, _, _⟩) (v := ?hv3) rfl (by kernel_rfl) (by kernel_rfl) (by kernel_rfl) (fun _ _ _ h => h) (Or.inl ⟨by rfl, ?hy3⟩) hHeld ?hr3
          case hy3 => (intro W hSw; (try dsimp only at hSw); go_simp; try with_reducible rfl)
          try simp only [Act.put, List.setIfInBounds_toArray, List.set_cons_zero, List.set_cons_succ]
          refine wpAnyH_take (i := 3) (oi := ⟨_, _, _, _, _, _⟩) (v := ?hv4) rfl (by kernel_rfl) (by kernel_rfl) (by kernel_rfl) (fun _ _ _ h => h) (Or.inl ⟨by rfl, ?hy4⟩) hHeld ?hr4
          case hy4 => (intro W hSw; (try dsimp only at hSw); go_simp; try with_reducible rfl)
          try simp only [Act.put, List.setIfInBounds_toArray, List.set_cons_zero, List.set_cons_succ]
          refine wpAnyH_take (i := 4) (oi := ⟨_, _, _, _, _, _⟩) (v := ?hv5) rfl (by kernel_rfl) (by kernel_rfl) (by kernel_rfl) (fun _ _ _ h => h) (Or.inl ⟨by rfl, ?hy5⟩) hHeld ?hr5
          case hy5 => (intro W hSw; (try dsimp only at hSw); go_simp; try with_reducible rfl)
          try simp only [Act.put, List.setIfInBounds_toArray, List.set_cons_zero, List.set_cons_succ]
          refine wpAnyH_take (i := 5) (oi := ⟨_, _, _, _, _, _⟩) (v := ?hv6) rfl (by kernel_rfl) (by kernel_rfl) (by kernel_rfl) (fun _ _ _ h => h) (Or.inl ⟨by rfl, ?hy6⟩) hHeld ?hr6
          case hy6 => (intro W hSw; (try dsimp only at hSw); go_simp; try with_reducible rfl)
          try simp only [Act.put, List.setIfInBounds_toArray, List.set_cons_zero, List.set_cons_succ]
          refine wpAnyH_take (i := 7) (oi := ⟨_, _, _, _, _, _⟩) (v := ?hv7) rfl (by kernel_rfl) (by kernel_rfl) (by kernel_rfl) (fun _ _ _ h => h) (Or.inl ⟨by rfl, ?hy7⟩) hHeld ?hr7
          case hy7 => (intro W hSw; (try dsimp only at hSw); go_simp; try with_reducible rfl)
          try simp only [Act.put, List.setIfInBounds_toArray, List.set_cons_zero, List.set_cons_succ]
          refine wpAnyH_take (i := 8) (oi := ⟨_, _, _, _, _, _⟩) (v := ?hv8) rfl (by kernel_rfl) (by kernel_rfl) (by kernel_rfl) (fun _ _ _ h => h) (Or.inl ⟨by rfl, ?hy8⟩) hHeld ?hr8
          case hy8 => (intro W hSw; (try dsimp only at hSw); go_simp; try with_reducible rfl)
          try simp only [Act.put, List.setIfInBounds_toArray, List.set_cons_zero, List.set_cons_succ]
          refine wpAnyH_ready (rs := [6]) (by kernel_rfl) (by simp) ?_
          refine AllReadyH.cons (o := ⟨_, _, _, _, _, _⟩) rfl (fun K hK => ?hs9) ?hm9
          case hs9 =>
            go_simp
            (with_reducible refine (cS _).mono ?_)
            rintro e u1 ⟨rfl, h1⟩
            have y1 := yd.trans (h1.mono yd.size)
            go_wp2_with fail
            refine hK.out _ _ ?hS9 (fun hHeld => ?hR9)
            case hS9 => exact KEEP.out _ y1
            clear hK K
            try simp only [Act.put, List.setIfInBounds_toArray, List.set_cons_zero, List.set_cons_succ]
            refine wpAnyH_take (i := 9) (oi := ⟨_, _, _, _, _, _⟩) (v := ?hv10) rfl (by kernel_rfl) (by kernel_rfl) (by kernel_rfl) (fun _ _ _ h => h) (Or.inl ⟨by rfl, ?hy10⟩) hHeld ?hr10
            case hy10 => (intro W hSw; (try dsimp only at hSw); go_simp; try with_reducible rfl)
            try simp only [Act.put, List.setIfInBounds_toArray, List.set_cons_zero, List.set_cons_succ]
            refine wpAnyH_take (i := 10) (oi := ⟨_, _, _, _, _, _⟩) (v := ?hv11) rfl (by kernel_rfl) (by kernel_rfl) (by kernel_rfl) (fun _ _ _ h => h) (Or.inl ⟨by rfl, ?hy11⟩) hHeld ?hr11
            case hy11 => (intro W hSw; (try dsimp only at hSw); go_simp; try with_reducible rfl)
            try simp only [Act.put, List.setIfInBounds_toArray, List.set_cons_zero, List.set_cons_succ]
            refine wpAnyH_take (i := 11) (oi := ⟨_, _, _, _, _, _⟩) (v := ?hv12) rfl (by kernel_rfl) (by kernel_rfl) (by kernel_rfl) (fun _ _ _ h => h) (Or.inl ⟨by rfl, ?hy12⟩) hHeld ?hr12
            case hy12 => (intro W hSw; (try dsimp only at hSw); go_simp; try with_reducible rfl)
            try simp only [Act.put, List.setIfInBounds_toArray, List.set_cons_zero, List.set_cons_succ]
            refine wpAnyH_take (i := 12) (oi := ⟨_, _, _, _, _, _⟩) (v := ?hv13) rfl (by kernel_rfl) (by kernel_rfl) (by kernel_rfl) (fun _ _ _ h => h) (Or.inl ⟨by rfl, ?hy13⟩) hHeld ?hr13
            case hy13 => (intro W hSw; (try dsimp only at hSw); go_simp; try with_reducible rfl)
            try simp only [Act.put, List.setIfInBounds_toArray, List.set_cons_zero, List.set_cons_succ]
            refine wpAnyH_take (i := 13) (oi := ⟨_, _, _, _, _, _⟩) (v := ?hv14) rfl (by kernel_rfl) (by kernel_rfl) (by kernel_rfl) (fun _ _ _ h => h) (Or.inl ⟨by rfl, ?hy14⟩) hHeld ?hr14
            case hy14 => (intro W hSw; (try dsimp only at hSw); go_simp; try with_reducible rfl)
            try simp only [Act.put, List.setIfInBounds_toArray, List.set_cons_zero, List.set_cons_succ]
            refine wpAnyH_take (i := 14) (oi := ⟨_, _, _, _, _, _⟩) (v := ?hv15) rfl (by kernel_rfl) (by kernel_rfl) (by kernel_rfl) (fun _ _ _ h => h) (Or.inl ⟨by rfl, ?hy15⟩) hHeld ?hr15
            case hy15 => (intro W hSw; (try dsimp only at hSw); go_simp; try with_reducible rfl)
            try simp only [Act.put, List.setIfInBounds_toArray, List.set_cons_zero, List.set_cons_succ]
            refine wpAnyH_ready (rs := [15]) (by kernel_rfl) (by simp) ?_
            refine AllReadyH.cons (o := ⟨_, _, _, _, _, _⟩) rfl (fun K hK => ?hs16) ?hm16
            case hs16 =>
              go_simp
              (with_reducible refine (cH _ (MaxL.below M5.out y1) (below_same y1 K5.out)).mono ?_)
              rintro e u2 ⟨rfl, h2⟩
              have y2 := y1.trans (h2.mono y1.size)
              go_wp2_with fail
              refine hK.out _ _ ?hS16 (fun hHeld => ?hR16)
              case hS16 => exact KEEP.out _ y2
              clear hK K
              try simp only [Act.put, List.setIfInBounds_toArray, List.set_cons_zero, List.set_cons_succ]
              refine wpAnyH_take (i := 16) (oi := ⟨_, _, _, _, _, _⟩) (v := ?hv17) rfl (by kernel_rfl) (by kernel_rfl) (by kernel_rfl) (fun _ _ _ h => h) (Or.inl ⟨by rfl, ?hy17⟩) hHeld ?hr17
              case hy17 => (intro W hSw; (try dsimp only at hSw); go_simp; try with_reducible rfl)
              try simp only [Act.put, List.setIfInBounds_toArray, List.set_cons_zero, List.set_cons_succ]
              refine wpAnyH_done (by kernel_rfl) ?_ _
              have hX : R = true := by have := HKn.out; simpa using this
              subst hX
              go_wp2_with fail
              go_ret
              exact ⟨rfl, Y4.out.trans ((YB.out.trans (y2.mono YB.out.size)).mono Y4.out.size)⟩
            case hm16 => exact AllReadyH.nil
          case hm9 => exact AllReadyH.nil
        | false =>
          have yd := (Below.refl w5.heap.size w5).drew
          refine wp_region_held_drew (S := fun W => W.cell? ⟨w3.heap.size, 0, none⟩ = some (.int .i64 0) ∧ W.cell? ⟨w3.heap.size, 1, none⟩ = some (.int .i64 (-1)) ∧ W.cell? ⟨0, 0, none⟩ = some (.int .i64 0) ∧ W.cell? ⟨0, 1, none⟩ = some (.int .i64 (-1)) ∧ W.cell? ⟨wr.heap.size, 0, none⟩ = some (.string ⟨A0.toArray⟩) ∧ W.cell? ⟨wr.heap.size, 1, none⟩ = some (.string ⟨B0.toArray⟩) ∧ W.cell? ⟨w.heap.size, 1, none⟩ = some (.string ⟨SA0.toArray⟩)) (by kernel_rfl) (KEEP.out _ yd) (fun hHeld => ?_)
          generalize w5.drew = wd at *
          refine wpAnyH_take (i := 0) (oi := ⟨_, _, _, _, _, _⟩) (v := ?hv18) rfl (by kernel_rfl) (by kernel_rfl) (by kernel_rfl) (fun _ _ _ h => h) (Or.inl ⟨by rfl, ?hy18⟩) hHeld ?hr18
          case hy18 => (intro W hSw; (try dsimp only at hSw); go_simp; try with_reducible rfl)
          try simp only [Act.put, List.setIfInBounds_toArray, List.set_cons_zero, List.set_cons_succ]
          refine wpAnyH_take (i := 1) (oi := ⟨_, _, _, _, _, _⟩) (v := ?hv19) rfl (by kernel_rfl) (by kernel_rfl) (by kernel_rfl) (fun _ _ _ h => h) (Or.inl ⟨by rfl, ?hy19⟩) hHeld ?hr19
          case hy19 => (intro W hSw; (try dsimp only at hSw); go_simp; try with_reducible rfl)
          try simp only [Act.put, List.setIfInBounds_toArray, List.set_cons_zero, List.set_cons_succ]
          refine wpAnyH_take (i := 2) (oi := ⟨_, _, _, _, _, _⟩) (v := ?hv20) rfl (by kernel_rfl) (by kernel_rfl) (by kernel_rfl) (fun _ _ _ h => h) (Or.inl ⟨by rfl, ?hy20⟩) hHeld ?hr20
          case hy20 => (intro W hSw; (try dsimp only at hSw); go_simp; try with_reducible rfl)
          try simp only [Act.put, List.setIfInBounds_toArray, List.set_cons_zero, List.set_cons_succ]
          refine wpAnyH_take (i := 3) (oi := ⟨_, _, _, _, _, _⟩) (v := ?hv21) rfl (by kernel_rfl) (by kernel_rfl) (by kernel_rfl) (fun _ _ _ h => h) (Or.inl ⟨by rfl, ?hy21⟩) hHeld ?hr21
          case hy21 => (intro W hSw; (try dsimp only at hSw); go_simp; try with_reducible rfl)
          try simp only [Act.put, List.setIfInBounds_toArray, List.set_cons_zero, List.set_cons_succ]
          refine wpAnyH_take (i := 4) (oi := ⟨_, _, _, _, _, _⟩) (v := ?hv22) rfl (by kernel_rfl) (by kernel_rfl) (by kernel_rfl) (fun _ _ _ h => h) (Or.inl ⟨by rfl, ?hy22⟩) hHeld ?hr22
          case hy22 => (intro W hSw; (try dsimp only at hSw); go_simp; try with_reducible rfl)
          try simp only [Act.put, List.setIfInBounds_toArray, List.set_cons_zero, List.set_cons_succ]
          refine wpAnyH_take (i := 5) (oi := ⟨_, _, _, _, _, _⟩) (v := ?hv23) rfl (by kernel_rfl) (by kernel_rfl) (by kernel_rfl) (fun _ _ _ h => h) (Or.inl ⟨by rfl, ?hy23⟩) hHeld ?hr23
          case hy23 => (intro W hSw; (try dsimp only at hSw); go_simp; try with_reducible rfl)
          try simp only [Act.put, List.setIfInBounds_toArray, List.set_cons_zero, List.set_cons_succ]
          refine wpAnyH_take (i := 7) (oi := ⟨_, _, _, _, _, _⟩) (v := ?hv24) rfl (by kernel_rfl) (by kernel_rfl) (by kernel_rfl) (fun _ _ _ h => h) (Or.inl ⟨by rfl, ?hy24⟩) hHeld ?hr24
          case hy24 => (intro W hSw; (try dsimp only at hSw); go_simp; try with_reducible rfl)
          try simp only [Act.put, List.setIfInBounds_toArray, List.set_cons_zero, List.set_cons_succ]
          refine wpAnyH_take (i := 8) (oi := ⟨_, _, _, _, _, _⟩) (v := ?hv25) rfl (by kernel_rfl) (by kernel_rfl) (by kernel_rfl) (fun _ _ _ h => h) (Or.inl ⟨by rfl, ?hy25⟩) hHeld ?hr25
          case hy25 => (intro W hSw; (try dsimp only at hSw); go_simp; try with_reducible rfl)
          try simp only [Act.put, List.setIfInBounds_toArray, List.set_cons_zero, List.set_cons_succ]
          refine wpAnyH_ready (rs := [6]) (by kernel_rfl) (by simp) ?_
          refine AllReadyH.cons (o := ⟨_, _, _, _, _, _⟩) rfl (fun K hK => ?hs26) ?hm26
          case hs26 =>
            go_simp
            (with_reducible refine (cS _).mono ?_)
            rintro e u1 ⟨rfl, h1⟩
            have y1 := yd.trans (h1.mono yd.size)
            go_wp2_with fail
            refine hK.out _ _ ?hS26 (fun hHeld => ?hR26)
            case hS26 => exact KEEP.out _ y1
            clear hK K
            try simp only [Act.put, List.setIfInBounds_toArray, List.set_cons_zero, List.set_cons_succ]
            refine wpAnyH_take (i := 9) (oi := ⟨_, _, _, _, _, _⟩) (v := ?hv27) rfl (by kernel_rfl) (by kernel_rfl) (by kernel_rfl) (fun _ _ _ h => h) (Or.inl ⟨by rfl, ?hy27⟩) hHeld ?hr27
            case hy27 => (intro W hSw; (try dsimp only at hSw); go_simp; try with_reducible rfl)
            try simp only [Act.put, List.setIfInBounds_toArray, List.set_cons_zero, List.set_cons_succ]
            refine wpAnyH_take (i := 10) (oi := ⟨_, _, _, _, _, _⟩) (v := ?hv28) rfl (by kernel_rfl) (by kernel_rfl) (by kernel_rfl) (fun _ _ _ h => h) (Or.inl ⟨by rfl, ?hy28⟩) hHeld ?hr28
            case hy28 => (intro W hSw; (try dsimp only at hSw); go_simp; try with_reducible rfl)
            try simp only [Act.put, List.setIfInBounds_toArray, List.set_cons_zero, List.set_cons_succ]
            refine wpAnyH_take (i := 11) (oi := ⟨_, _, _, _, _, _⟩) (v := ?hv29) rfl (by kernel_rfl) (by kernel_rfl) (by kernel_rfl) (fun _ _ _ h => h) (Or.inl ⟨by rfl, ?hy29⟩) hHeld ?hr29
            case hy29 => (intro W hSw; (try dsimp only at hSw); go_simp; try with_reducible rfl)
            try simp only [Act.put, List.setIfInBounds_toArray, List.set_cons_zero, List.set_cons_succ]
            refine wpAnyH_take (i := 12) (oi := ⟨_, _, _, _, _, _⟩) (v := ?hv30) rfl (by kernel_rfl) (by kernel_rfl) (by kernel_rfl) (fun _ _ _ h => h) (Or.inl ⟨by rfl, ?hy30⟩) hHeld ?hr30
            case hy30 => (intro W hSw; (try dsimp only at hSw); go_simp; try with_reducible rfl)
            try simp only [Act.put, List.setIfInBounds_toArray, List.set_cons_zero, List.set_cons_succ]
            refine wpAnyH_take (i := 13) (oi := ⟨_, _, _, _, _, _⟩) (v := ?hv31) rfl (by kernel_rfl) (by kernel_rfl) (by kernel_rfl) (fun _ _ _ h => h) (Or.inl ⟨by rfl, ?hy31⟩) hHeld ?hr31
            case hy31 => (intro W hSw; (try dsimp only at hSw); go_simp; try with_reducible rfl)
            try simp only [Act.put, List.setIfInBounds_toArray, List.set_cons_zero, List.set_cons_succ]
            refine wpAnyH_take (i := 14) (oi := ⟨_, _, _, _, _, _⟩) (v := ?hv32) rfl (by kernel_rfl) (by kernel_rfl) (by kernel_rfl) (fun _ _ _ h => h) (Or.inl ⟨by rfl, ?hy32⟩) hHeld ?hr32
            case hy32 => (intro W hSw; (try dsimp only at hSw); go_simp; try with_reducible rfl)
            try simp only [Act.put, List.setIfInBounds_toArray, List.set_cons_zero, List.set_cons_succ]
            refine wpAnyH_ready (rs := [15]) (by kernel_rfl) (by simp) ?_
            refine AllReadyH.cons (o := ⟨_, _, _, _, _, _⟩) rfl (fun K hK => ?hs33) ?hm33
            case hs33 =>
              go_simp
              (with_reducible refine (cH _ (MaxL.below M5.out y1) (below_same y1 K5.out)).mono ?_)
              rintro e u2 ⟨rfl, h2⟩
              have y2 := y1.trans (h2.mono y1.size)
              go_wp2_with fail
              refine hK.out _ _ ?hS33 (fun hHeld => ?hR33)
              case hS33 => exact KEEP.out _ y2
              clear hK K
              try simp only [Act.put, List.setIfInBounds_toArray, List.set_cons_zero, List.set_cons_succ]
              refine wpAnyH_take (i := 16) (oi := ⟨_, _, _, _, _, _⟩) (v := ?hv34) rfl (by kernel_rfl) (by kernel_rfl) (by kernel_rfl) (fun _ _ _ h => h) (Or.inl ⟨by rfl, ?hy34⟩) hHeld ?hr34
              case hy34 => (intro W hSw; (try dsimp only at hSw); go_simp; try with_reducible rfl)
              try simp only [Act.put, List.setIfInBounds_toArray, List.set_cons_zero, List.set_cons_succ]
              refine wpAnyH_done (by kernel_rfl) ?_ _
              go_wp2_with fail
              go_roundg g'
              case measure => omega
              case rel => exact ⟨k + 1, by omega, by go_num, YB.out.trans (y2.mono YB.out.size), Lib.hid (by have := HKn.out; simpa using this)⟩
            case hm33 => exact AllReadyH.nil
          case hm26 => exact AllReadyH.nil
      · have hbq : (SA0 == name) = false := by rw [beq_eq_false_iff_ne]; exact he
        have hbd : decide (SA0 = name) = false := decide_eq_false he
        have HK2 : Hid (R = (l.drop (k + 1)).any (fun f : Fld => smallL f.1 == name && hasK f.2 text)) := Lib.hid (by have := HKn.out; rw [hbq] at this; simpa using this)
        have yd := (Below.refl w5.heap.size w5).drew
        refine wp_region_held_drew (S := fun W => W.cell? ⟨w3.heap.size, 0, none⟩ = some (.int .i64 0) ∧ W.cell? ⟨w3.heap.size, 1, none⟩ = some (.int .i64 (-1)) ∧ W.cell? ⟨0, 0, none⟩ = some (.int .i64 0) ∧ W.cell? ⟨0, 1, none⟩ = some (.int .i64 (-1)) ∧ W.cell? ⟨wr.heap.size, 0, none⟩ = some (.string ⟨A0.toArray⟩) ∧ W.cell? ⟨wr.heap.size, 1, none⟩ = some (.string ⟨B0.toArray⟩) ∧ W.cell? ⟨w.heap.size, 1, none⟩ = some (.string ⟨name.toArray⟩)) (by kernel_rfl) (KEEP.out _ yd) (fun hHeld => ?_)
        generalize w5.drew = wd at *
        refine wpAnyH_take (i := 0) (oi := ⟨_, _, _, _, _, _⟩) (v := ?hv35) rfl (by kernel_rfl) (by kernel_rfl) (by kernel_rfl) (fun _ _ _ h => h) (Or.inl ⟨by rfl, ?hy35⟩) hHeld ?hr35
        case hy35 => (intro W hSw; (try dsimp only at hSw); go_simp; try with_reducible rfl)
        try simp only [Act.put, List.setIfInBounds_toArray, List.set_cons_zero, List.set_cons_succ]
        refine wpAnyH_take (i := 1) (oi := ⟨_, _, _, _, _, _⟩) (v := ?hv36) rfl (by kernel_rfl) (by kernel_rfl) (by kernel_rfl) (fun _ _ _ h => h) (Or.inl ⟨by rfl, ?hy36⟩) hHeld ?hr36
        case hy36 => (intro W hSw; (try dsimp only at hSw); go_simp; try with_reducible rfl)
        try simp only [Act.put, List.setIfInBounds_toArray, List.set_cons_zero, List.set_cons_succ]
        refine wpAnyH_take (i := 2) (oi := ⟨_, _, _, _, _, _⟩) (v := ?hv37) rfl (by kernel_rfl) (by kernel_rfl) (by kernel_rfl) (fun _ _ _ h => h) (Or.inl ⟨by rfl, ?hy37⟩) hHeld ?hr37
        case hy37 => (intro W hSw; (try dsimp only at hSw); go_simp; try with_reducible rfl)
        try simp only [Act.put, List.setIfInBounds_toArray, List.set_cons_zero, List.set_cons_succ]
        refine wpAnyH_take (i := 3) (oi := ⟨_, _, _, _, _, _⟩) (v := ?hv38) rfl (by kernel_rfl) (by kernel_rfl) (by kernel_rfl) (fun _ _ _ h => h) (Or.inl ⟨by rfl, ?hy38⟩) hHeld ?hr38
        case hy38 => (intro W hSw; (try dsimp only at hSw); go_simp; try with_reducible rfl)
        try simp only [Act.put, List.setIfInBounds_toArray, List.set_cons_zero, List.set_cons_succ]
        refine wpAnyH_take (i := 4) (oi := ⟨_, _, _, _, _, _⟩) (v := ?hv39) rfl (by kernel_rfl) (by kernel_rfl) (by kernel_rfl) (fun _ _ _ h => h) (Or.inl ⟨by rfl, ?hy39⟩) hHeld ?hr39
        case hy39 => (intro W hSw; (try dsimp only at hSw); go_simp; try with_reducible rfl)
        try simp only [Act.put, List.setIfInBounds_toArray, List.set_cons_zero, List.set_cons_succ]
        refine wpAnyH_take (i := 5) (oi := ⟨_, _, _, _, _, _⟩) (v := ?hv40) rfl (by kernel_rfl) (by kernel_rfl) (by kernel_rfl) (fun _ _ _ h => h) (Or.inl ⟨by rfl, ?hy40⟩) hHeld ?hr40
        case hy40 => (intro W hSw; (try dsimp only at hSw); go_simp; try with_reducible rfl)
        try simp only [Act.put, List.setIfInBounds_toArray, List.set_cons_zero, List.set_cons_succ]
        refine wpAnyH_take (i := 7) (oi := ⟨_, _, _, _, _, _⟩) (v := ?hv41) rfl (by kernel_rfl) (by kernel_rfl) (by kernel_rfl) (fun _ _ _ h => h) (Or.inl ⟨by rfl, ?hy41⟩) hHeld ?hr41
        case hy41 => (intro W hSw; (try dsimp only at hSw); go_simp; try with_reducible rfl)
        try simp only [Act.put, List.setIfInBounds_toArray, List.set_cons_zero, List.set_cons_succ]
        refine wpAnyH_take (i := 8) (oi := ⟨_, _, _, _, _, _⟩) (v := ?hv42) rfl (by kernel_rfl) (by kernel_rfl) (by kernel_rfl) (fun _ _ _ h => h) (Or.inl ⟨by rfl, ?hy42⟩) hHeld ?hr42
        case hy42 => (intro W hSw; (try dsimp only at hSw); go_simp; try with_reducible rfl)
        try simp only [Act.put, List.setIfInBounds_toArray, List.set_cons_zero, List.set_cons_succ]
        refine wpAnyH_ready (rs := [6]) (by kernel_rfl) (by simp) ?_
        refine AllReadyH.cons (o := ⟨_, _, _, _, _, _⟩) rfl (fun K hK => ?hs43) ?hm43
        case hs43 =>
          go_simp
          (with_reducible refine (cS _).mono ?_)
          rintro e u1 ⟨rfl, h1⟩
          have y1 := yd.trans (h1.mono yd.size)
          go_wp2_with fail
          refine hK.out _ _ ?hS43 (fun hHeld => ?hR43)
          case hS43 => exact KEEP.out _ y1
          clear hK K
          try simp only [Act.put, List.setIfInBounds_toArray, List.set_cons_zero, List.set_cons_succ]
          refine wpAnyH_take (i := 9) (oi := ⟨_, _, _, _, _, _⟩) (v := ?hv44) rfl (by kernel_rfl) (by kernel_rfl) (by kernel_rfl) (fun _ _ _ h => h) (Or.inl ⟨by rfl, ?hy44⟩) hHeld ?hr44
          case hy44 => (intro W hSw; (try dsimp only at hSw); go_simp; try with_reducible rfl)
          try simp only [Act.put, List.setIfInBounds_toArray, List.set_cons_zero, List.set_cons_succ]
          refine wpAnyH_take (i := 10) (oi := ⟨_, _, _, _, _, _⟩) (v := ?hv45) rfl (by kernel_rfl) (by kernel_rfl) (by kernel_rfl) (fun _ _ _ h => h) (Or.inl ⟨by rfl, ?hy45⟩) hHeld ?hr45
          case hy45 => (intro W hSw; (try dsimp only at hSw); go_simp; try with_reducible rfl)
          try simp only [Act.put, List.setIfInBounds_toArray, List.set_cons_zero, List.set_cons_succ]
          refine wpAnyH_take (i := 11) (oi := ⟨_, _, _, _, _, _⟩) (v := ?hv46) rfl (by kernel_rfl) (by kernel_rfl) (by kernel_rfl) (fun _ _ _ h => h) (Or.inl ⟨by rfl, ?hy46⟩) hHeld ?hr46
          case hy46 => (intro W hSw; (try dsimp only at hSw); go_simp; try with_reducible rfl)
          try simp only [Act.put, List.setIfInBounds_toArray, List.set_cons_zero, List.set_cons_succ]
          refine wpAnyH_take (i := 12) (oi := ⟨_, _, _, _, _, _⟩) (v := undef) rfl (by kernel_rfl) (by kernel_rfl) (by kernel_rfl) (fun _ _ _ h => h) (Or.inr ⟨by rfl, rfl⟩) hHeld ?hr47
          try simp only [Act.put, List.setIfInBounds_toArray, List.set_cons_zero, List.set_cons_succ]
          refine wpAnyH_take (i := 13) (oi := ⟨_, _, _, _, _, _⟩) (v := undef) rfl (by kernel_rfl) (by kernel_rfl) (by kernel_rfl) (fun _ _ _ h => h) (Or.inr ⟨by rfl, rfl⟩) hHeld ?hr48
          try simp only [Act.put, List.setIfInBounds_toArray, List.set_cons_zero, List.set_cons_succ]
          refine wpAnyH_take (i := 14) (oi := ⟨_, _, _, _, _, _⟩) (v := undef) rfl (by kernel_rfl) (by kernel_rfl) (by kernel_rfl) (fun _ _ _ h => h) (Or.inr ⟨by rfl, rfl⟩) hHeld ?hr49
          try simp only [Act.put, List.setIfInBounds_toArray, List.set_cons_zero, List.set_cons_succ]
          refine wpAnyH_take (i := 15) (oi := ⟨_, _, _, _, _, _⟩) (v := undef) rfl (by kernel_rfl) (by kernel_rfl) (by kernel_rfl) (fun _ _ _ h => h) (Or.inr ⟨by rfl, rfl⟩) hHeld ?hr50
          try simp only [Act.put, List.setIfInBounds_toArray, List.set_cons_zero, List.set_cons_succ]
          refine wpAnyH_take (i := 16) (oi := ⟨_, _, _, _, _, _⟩) (v := ?hv51) rfl (by kernel_rfl) (by kernel_rfl) (by kernel_rfl) (fun _ _ _ h => h) (Or.inl ⟨by rfl, ?hy51⟩) hHeld ?hr51
          case hy51 => (intro W hSw; (try dsimp only at hSw); go_simp; try with_reducible rfl)
          try simp only [Act.put, List.setIfInBounds_toArray, List.set_cons_zero, List.set_cons_succ]
          refine wpAnyH_done (by kernel_rfl) ?_ _
          go_wp2_with fail
          go_roundg g'
          case measure => omega
          case rel => exact ⟨k + 1, by omega, by go_num, YB.out.trans (y1.mono YB.out.size), HK2⟩
        case hm43 => exact AllReadyH.nil
    · have hX : R = false := by rw [HK.out, List.drop_eq_nil_of_le (by omega)]; rfl
      subst hX
      go_wp2_with fail
      go_ret
      exact ⟨rfl, Y4.out.trans (hbr.mono Y4.out.size)⟩
end Go.Proofs.YtcahhnjponeeeaaGreatDoor
namespace Go.Proofs.YtcahhnjponeeeaaGreatDoor
open Go.RowKit Go.Shelf Go.Sort
set_option linter.unusedSimpArgs false
set_option maxRecDepth 100000 in
set_option maxHeartbeats 8000000 in
theorem found_not (sv : Value) (name text : List UInt8) (n : Int) (fv : Value) (x : LetK) (w : World) (hx : x.text.length ≤ 9000) (hM : MaxL w) (g off m kc : Nat) (hm : 0 < m) (a b c d e f : Value) (hg : g < w.heap.size) (hc : w.cell? ⟨g, off, none⟩ = some a ∧ w.cell? ⟨g, off + 1, none⟩ = some b ∧ w.cell? ⟨g, off + 2, none⟩ = some c ∧ w.cell? ⟨g, off + 3, none⟩ = some d ∧ w.cell? ⟨g, off + 4, none⟩ = some e ∧ w.cell? ⟨g, off + 5, none⟩ = some f) (r : Bool)
    (cH : ∀ W, Below w.heap.size w W → Calls Tryz.prog 11 #[.agg #[a, b, c, d, e, f], .agg #[.int .i64 x.uid, fv, .int .i64 x.day, .string ⟨x.text.toArray⟩], .int .i64 x.which, .int .i64 x.many, .int .i64 x.greatest] W fun e w' => e = .returned (.bool r) ∧ Below W.heap.size W w') :
    Calls Tryz.prog 11 #[.agg #[.int .i64 13, .string ⟨name.toArray⟩, .string ⟨text.toArray⟩, .int .i64 n, sv, .slice (some ⟨g, off, none⟩) m kc], .agg #[.int .i64 x.uid, fv, .int .i64 x.day, .string ⟨x.text.toArray⟩], .int .i64 x.which, .int .i64 x.many, .int .i64 x.greatest] w fun e w' => e = .returned (.bool (!r)) ∧ Below w.heap.size w w' := by
  have hw := fndW_at w (.int .i64 13) (.string ⟨name.toArray⟩) (.string ⟨text.toArray⟩) (.int .i64 n) sv (.slice (some ⟨g, off, none⟩) m kc) (.int .i64 x.uid) fv (.int .i64 x.day) (.string ⟨x.text.toArray⟩)
  have cS := rsplit_any x.text _ (by omega) (MaxL.below hM hw.below)
  have HM := Lib.hid (MaxL.below hM hw.below)
  have HCC := Lib.hid hc
  have CH := Lib.hid cH
  have hmz : (0 : Int) < (m : Int) := by omega
  clear hc cH
  obtain ⟨SA, hSA⟩ : ∃ SA, (splitHd x.text).1 = SA := ⟨_, rfl⟩
  obtain ⟨SB, hSB⟩ : ∃ SB, (splitHd x.text).2 = SB := ⟨_, rfl⟩
  rw [hSA, hSB] at cS
  obtain ⟨k0, k1, k2, k3, k4, k5⟩ := six_cells' hw.k
  obtain ⟨l0, l1, l2, l3⟩ := four_cells hw.l
  have Y := Lib.hid hw.below
  have KK := Lib.hid hw.k
  have LL := Lib.hid hw.l
  clear hw hM
  go_enter Tryz.func11, Tryz.ntmps11
  go_upto_region 1 with fail
  generalize ((w.alloc (.cells #[.int .i64 13, .string ⟨name.toArray⟩, .string ⟨text.toArray⟩, .int .i64 n, sv, .slice (some ⟨g, off, none⟩) m kc] 32)).alloc (.cells #[.int .i64 x.uid, fv, .int .i64 x.day, .string ⟨x.text.toArray⟩] 24)) = w1 at *
  go_upto_region 36 with (go_at_call 34; go_loud (((with_reducible refine cS.mono ?_); rintro e w2 ⟨rfl, h⟩; have y := Y.out.trans (h.mono Y.out.size); clear k0 k1 k2 k3 k4 k5 l0 l1 l2 l3; obtain ⟨k0, k1, k2, k3, k4, k5⟩ := six_cells' (below_same h KK.out); obtain ⟨l0, l1, l2, l3⟩ := four_cells (below_same h LL.out))))
  obtain ⟨c0, c1, c2, c3, c4, c5⟩ := HCC.out
  have d0 := (y.cell (p := ⟨g, off, none⟩) hg).trans c0
  have d1 := (y.cell (p := ⟨g, off + 1, none⟩) hg).trans c1
  have d2 := (y.cell (p := ⟨g, off + 2, none⟩) hg).trans c2
  have d3 := (y.cell (p := ⟨g, off + 3, none⟩) hg).trans c3
  have d4 := (y.cell (p := ⟨g, off + 4, none⟩) hg).trans c4
  have d5 := (y.cell (p := ⟨g, off + 5, none⟩) hg).trans c5
  clear c0 c1 c2 c3 c4 c5
  have yd := y.drew
  have cH1 := CH.out _ yd
  go_still_tail 8, (by kernel_rfl)
  change wpList _ _ _ _ _ w2.drew
  go_wp2_with (go_at_call 11; go_loud (((with_reducible refine cH1.mono ?_); rintro e w3 ⟨rfl, h3⟩; have y3 := yd.trans (h3.mono yd.size))))
  go_ret
  exact ⟨rfl, y3⟩
set_option maxRecDepth 100000 in
set_option maxHeartbeats 8000000 in
theorem found_or (sv : Value) (name text : List UInt8) (n : Int) (fv : Value) (x : LetK) (w : World) (hx : x.text.length ≤ 9000) (hM : MaxL w)
    (keys : List KeyP) (ka : Option Addr) (kc : Nat) (vs : Nat → List Value) (hkl : keys.length ≤ 9223372036854775807) (h6 : ∀ (j : Nat) (t : KeyP), keys[j]? = some t → ∃ (co : Int) (nm tt : List UInt8) (kn : Int) (s1 : Option Addr) (s2 s3 : Nat) (t1 : Option Addr) (t2 t3 : Nat), vs j = [.int .i64 co, .string ⟨nm.toArray⟩, .string ⟨tt.toArray⟩, .int .i64 kn, .slice s1 s2 s3, .slice t1 t2 t3])
    (hcell : ∀ (j : Nat) (t : KeyP), keys[j]? = some t → ∃ b off, ka = some ⟨b, off, none⟩ ∧ b < w.heap.size ∧ ∀ (i : Nat) (u : Value), (vs j)[i]? = some u → w.cell? ⟨b, off + j * 6 + i, none⟩ = some u)
    (ih : ∀ (j : Nat) (t : KeyP), keys[j]? = some t → ∀ W, Below w.heap.size w W → Calls Tryz.prog 11 #[.agg (vs j).toArray, .agg #[.int .i64 x.uid, fv, .int .i64 x.day, .string ⟨x.text.toArray⟩], .int .i64 x.which, .int .i64 x.many, .int .i64 x.greatest] W fun e w' => e = .returned (.bool (holdsK x t)) ∧ Below W.heap.size W w') :
    Calls Tryz.prog 11 #[.agg #[.int .i64 14, .string ⟨name.toArray⟩, .string ⟨text.toArray⟩, .int .i64 n, sv, .slice ka keys.length kc], .agg #[.int .i64 x.uid, fv, .int .i64 x.day, .string ⟨x.text.toArray⟩], .int .i64 x.which, .int .i64 x.many, .int .i64 x.greatest] w fun e w' => e = .returned (.bool (decide (0 < keys.countP (holdsK x)))) ∧ Below w.heap.size w w' := by
  have hw := fndW_at w (.int .i64 14) (.string ⟨name.toArray⟩) (.string ⟨text.toArray⟩) (.int .i64 n) sv (.slice ka keys.length kc) (.int .i64 x.uid) fv (.int .i64 x.day) (.string ⟨x.text.toArray⟩)
  have cS := rsplit_any x.text _ (by omega) (MaxL.below hM hw.below)
  have HM := Lib.hid (MaxL.below hM hw.below)
  have HC := Lib.hid hcell
  have H6 := Lib.hid h6
  have CI := Lib.hid ih
  obtain ⟨R, hR⟩ : ∃ R, (decide (0 < keys.countP (holdsK x))) = R := ⟨_, rfl⟩
  rw [hR]
  have HR := Lib.hid hR
  clear hcell h6 ih hR
  obtain ⟨SA, hSA⟩ : ∃ SA, (splitHd x.text).1 = SA := ⟨_, rfl⟩
  obtain ⟨SB, hSB⟩ : ∃ SB, (splitHd x.text).2 = SB := ⟨_, rfl⟩
  rw [hSA, hSB] at cS
  obtain ⟨k0, k1, k2, k3, k4, k5⟩ := six_cells' hw.k
  obtain ⟨l0, l1, l2, l3⟩ := four_cells hw.l
  have Y := Lib.hid hw.below
  have KK := Lib.hid hw.k
  have LL := Lib.hid hw.l
  clear hw hM
  go_enter Tryz.func11, Tryz.ntmps11
  go_upto_region 1 with fail
  generalize ((w.alloc (.cells #[.int .i64 14, .string ⟨name.toArray⟩, .string ⟨text.toArray⟩, .int .i64 n, sv, .slice ka keys.length kc] 32)).alloc (.cells #[.int .i64 x.uid, fv, .int .i64 x.day, .string ⟨x.text.toArray⟩] 24)) = w1 at *
  go_wp2_with (go_at_call 34; go_loud (((with_reducible refine cS.mono ?_); rintro e w2 ⟨rfl, h⟩; have y := Y.out.trans (h.mono Y.out.size); clear k0 k1 k2 k3 k4 k5 l0 l1 l2 l3; obtain ⟨k0, k1, k2, k3, k4, k5⟩ := six_cells' (below_same h KK.out); obtain ⟨l0, l1, l2, l3⟩ := four_cells (below_same h LL.out); have KK2 := Lib.hid (below_same h KK.out); have LL2 := Lib.hid (below_same h LL.out); have Y2 := Lib.hid y)))
  clear l0 l1 l2 l3
  go_loopg [18, 150] keys.length (fun g s18 s150 wr => ∃ (k c : Nat), k + g = keys.length ∧ s18 = .int .i64 (c : Int) ∧ s150 = .int .i64 (k : Int) ∧ c ≤ k ∧ Below w2.heap.size w2 wr ∧ Hid (c = (keys.take k).countP (holdsK x)))
  case atStart => exact ⟨0, 0, by omega, rfl, rfl, Nat.le_refl _, Below.refl _ _, Lib.hid rfl⟩
  case round =>
    clear k0 k1 k2 k3 k4 k5
    obtain ⟨k, c, hk, rfl, rfl, hck, hbr, HK⟩ := hrel
    by_cases hlt : k < keys.length
    · obtain ⟨g', rfl⟩ : ∃ g', gk = g' + 1 := ⟨gk - 1, by omega⟩
      obtain ⟨r, hr⟩ : ∃ r, keys[k]? = some r := ⟨keys[k], List.getElem?_eq_getElem hlt⟩
      have htk : (keys.take (k + 1)).countP (holdsK x) = c + if holdsK x r then 1 else 0 := by
        rw [List.take_add_one, hr, HK.out]; simp [List.countP_cons]
      obtain ⟨b, off, rfl, hb, c0⟩ := HC.out k r hr
      obtain ⟨co, nm, tt, kn, s1, s2, s3, t1, t2, t3, hz⟩ := H6.out k r hr
      have cI := CI.out k r hr
      rw [hz] at c0 cI
      have hbw := Y2.out.trans (hbr.mono Y2.out.size)
      have d0 := (hbw.cell (p := ⟨b, off + k * 6, none⟩) hb).trans (c0 0 _ rfl)
      have d1 := (hbw.cell (p := ⟨b, off + k * 6 + 1, none⟩) hb).trans (c0 1 _ rfl)
      have d2 := (hbw.cell (p := ⟨b, off + k * 6 + 2, none⟩) hb).trans (c0 2 _ rfl)
      have d3 := (hbw.cell (p := ⟨b, off + k * 6 + 3, none⟩) hb).trans (c0 3 _ rfl)
      have d4 := (hbw.cell (p := ⟨b, off + k * 6 + 4, none⟩) hb).trans (c0 4 _ rfl)
      have d5 := (hbw.cell (p := ⟨b, off + k * 6 + 5, none⟩) hb).trans (c0 5 _ rfl)
      have hltz : (k : Int) < (keys.length : Int) := by omega
      clear c0 hz hr
      have hb5 := (Below.refl wr.heap.size wr).alloc (Nat.le_refl _) (.cells #[.int .i64 co, .string ⟨nm.toArray⟩, .string ⟨tt.toArray⟩, .int .i64 kn, .slice s1 s2 s3, .slice t1 t2 t3] 32)
      have x5 := World.heap_alloc_new wr (.cells #[.int .i64 co, .string ⟨nm.toArray⟩, .string ⟨tt.toArray⟩, .int .i64 kn, .slice s1 s2 s3, .slice t1 t2 t3] 32)
      obtain ⟨w5, hw5⟩ : ∃ w5, wr.alloc (.cells #[.int .i64 co, .string ⟨nm.toArray⟩, .string ⟨tt.toArray⟩, .int .i64 kn, .slice s1 s2 s3, .slice t1 t2 t3] 32) = w5 := ⟨_, rfl⟩
      rw [hw5] at hb5 x5
      have HW5 := Lib.hid hw5
      have hb25 := hbr.trans (hb5.mono hbr.size)
      obtain ⟨p0, p1, p2, p3, p4, p5⟩ := six_cells' x5
      obtain ⟨l0, l1, l2, l3⟩ := four_cells (below_same hb25 LL2.out)
      have cI1 := cI w5 (Y2.out.trans (hb25.mono Y2.out.size))
      have YB := Lib.hid hb25
      clear hw5 hb5 x5 hb25 cI
      go_upto_region 41 with fail
      rw [show wr.alloc (.cells #[.int .i64 co, .string ⟨nm.toArray⟩, .string ⟨tt.toArray⟩, .int .i64 kn, .slice s1 s2 s3, .slice t1 t2 t3] 32) = w5 from HW5.out]
      cases hp : holdsK x r with
      | true =>
        rw [hp] at cI1 htk
        have HT := Lib.hid (show c + 1 = _ from htk.symm)
        clear hp htk
        go_wp2_with (go_at_call 11; go_loud (((with_reducible refine cI1.mono ?_); rintro e w6 ⟨rfl, h6⟩; have y6 := YB.out.trans (h6.mono YB.out.size))))
        go_roundg g'
        case measure => omega
        case rel => exact ⟨k + 1, c + 1, by omega, by go_num, by go_num, by omega, y6, HT⟩
      | false =>
        rw [hp] at cI1 htk
        have HT := Lib.hid (show c = _ from htk.symm)
        clear hp htk
        go_wp2_with (go_at_call 11; go_loud (((with_reducible refine cI1.mono ?_); rintro e w6 ⟨rfl, h6⟩; have y6 := YB.out.trans (h6.mono YB.out.size))))
        go_roundg g'
        case measure => omega
        case rel => exact ⟨k + 1, c, by omega, by go_num, by go_num, by omega, y6, HT⟩
    · obtain rfl : k = keys.length := by omega
      have hc := HK.out
      rw [List.take_length] at hc
      have hR := HR.out
      rw [← hc] at hR
      obtain ⟨k0, k1, k2, k3, k4, k5⟩ := six_cells' (below_same hbr KK2.out)
      clear HK hc
      by_cases h0 : 0 < c
      · have h0z : (0 : Int) < (c : Int) := by omega
        have hX : R = true := by rw [← hR]; exact decide_eq_true h0
        subst hX
        clear hR
        go_wp2_with fail
        go_ret
        exact ⟨rfl, Y2.out.trans (hbr.mono Y2.out.size)⟩
      · obtain rfl : c = 0 := by omega
        have hX : R = false := by rw [← hR]; rfl
        subst hX
        clear hR
        go_wp2_with fail
        go_ret
        exact ⟨rfl, Y2.out.trans (hbr.mono Y2.out.size)⟩
set_option maxRecDepth 100000 in
set_option maxHeartbeats 8000000 in
theorem found_and (sv : Value) (name text : List UInt8) (n : Int) (fv : Value) (x : LetK) (w : World) (hx : x.text.length ≤ 9000) (hM : MaxL w)
    (keys : List KeyP) (ka : Option Addr) (kc : Nat) (vs : Nat → List Value) (hkl : keys.length ≤ 9223372036854775807) (h6 : ∀ (j : Nat) (t : KeyP), keys[j]? = some t → ∃ (co : Int) (nm tt : List UInt8) (kn : Int) (s1 : Option Addr) (s2 s3 : Nat) (t1 : Option Addr) (t2 t3 : Nat), vs j = [.int .i64 co, .string ⟨nm.toArray⟩, .string ⟨tt.toArray⟩, .int .i64 kn, .slice s1 s2 s3, .slice t1 t2 t3])
    (hcell : ∀ (j : Nat) (t : KeyP), keys[j]? = some t → ∃ b off, ka = some ⟨b, off, none⟩ ∧ b < w.heap.size ∧ ∀ (i : Nat) (u : Value), (vs j)[i]? = some u → w.cell? ⟨b, off + j * 6 + i, none⟩ = some u)
    (ih : ∀ (j : Nat) (t : KeyP), keys[j]? = some t → ∀ W, Below w.heap.size w W → Calls Tryz.prog 11 #[.agg (vs j).toArray, .agg #[.int .i64 x.uid, fv, .int .i64 x.day, .string ⟨x.text.toArray⟩], .int .i64 x.which, .int .i64 x.many, .int .i64 x.greatest] W fun e w' => e = .returned (.bool (holdsK x t)) ∧ Below W.heap.size W w') :
    Calls Tryz.prog 11 #[.agg #[.int .i64 15, .string ⟨name.toArray⟩, .string ⟨text.toArray⟩, .int .i64 n, sv, .slice ka keys.length kc], .agg #[.int .i64 x.uid, fv, .int .i64 x.day, .string ⟨x.text.toArray⟩], .int .i64 x.which, .int .i64 x.many, .int .i64 x.greatest] w fun e w' => e = .returned (.bool (decide (keys.countP (holdsK x) = keys.length))) ∧ Below w.heap.size w w' := by
  have hw := fndW_at w (.int .i64 15) (.string ⟨name.toArray⟩) (.string ⟨text.toArray⟩) (.int .i64 n) sv (.slice ka keys.length kc) (.int .i64 x.uid) fv (.int .i64 x.day) (.string ⟨x.text.toArray⟩)
  have cS := rsplit_any x.text _ (by omega) (MaxL.below hM hw.below)
  have HM := Lib.hid (MaxL.below hM hw.below)
  have HC := Lib.hid hcell
  have H6 := Lib.hid h6
  have CI := Lib.hid ih
  obtain ⟨R, hR⟩ : ∃ R, (decide (keys.countP (holdsK x) = keys.length)) = R := ⟨_, rfl⟩
  rw [hR]
  have HR := Lib.hid hR
  clear hcell h6 ih hR
  obtain ⟨SA, hSA⟩ : ∃ SA, (splitHd x.text).1 = SA := ⟨_, rfl⟩
  obtain ⟨SB, hSB⟩ : ∃ SB, (splitHd x.text).2 = SB := ⟨_, rfl⟩
  rw [hSA, hSB] at cS
  obtain ⟨k0, k1, k2, k3, k4, k5⟩ := six_cells' hw.k
  obtain ⟨l0, l1, l2, l3⟩ := four_cells hw.l
  have Y := Lib.hid hw.below
  have KK := Lib.hid hw.k
  have LL := Lib.hid hw.l
  clear hw hM
  go_enter Tryz.func11, Tryz.ntmps11
  go_upto_region 1 with fail
  generalize ((w.alloc (.cells #[.int .i64 15, .string ⟨name.toArray⟩, .string ⟨text.toArray⟩, .int .i64 n, sv, .slice ka keys.length kc] 32)).alloc (.cells #[.int .i64 x.uid, fv, .int .i64 x.day, .string ⟨x.text.toArray⟩] 24)) = w1 at *
  go_wp2_with (go_at_call 34; go_loud (((with_reducible refine cS.mono ?_); rintro e w2 ⟨rfl, h⟩; have y := Y.out.trans (h.mono Y.out.size); clear k0 k1 k2 k3 k4 k5 l0 l1 l2 l3; obtain ⟨k0, k1, k2, k3, k4, k5⟩ := six_cells' (below_same h KK.out); obtain ⟨l0, l1, l2, l3⟩ := four_cells (below_same h LL.out); have KK2 := Lib.hid (below_same h KK.out); have LL2 := Lib.hid (below_same h LL.out); have Y2 := Lib.hid y)))
  clear l0 l1 l2 l3
  go_loopg [18, 150] keys.length (fun g s18 s150 wr => ∃ (k c : Nat), k + g = keys.length ∧ s18 = .int .i64 (c : Int) ∧ s150 = .int .i64 (k : Int) ∧ c ≤ k ∧ Below w2.heap.size w2 wr ∧ Hid (c = (keys.take k).countP (holdsK x)))
  case atStart => exact ⟨0, 0, by omega, rfl, rfl, Nat.le_refl _, Below.refl _ _, Lib.hid rfl⟩
  case round =>
    clear k0 k1 k2 k3 k4 k5
    obtain ⟨k, c, hk, rfl, rfl, hck, hbr, HK⟩ := hrel
    by_cases hlt : k < keys.length
    · obtain ⟨g', rfl⟩ : ∃ g', gk = g' + 1 := ⟨gk - 1, by omega⟩
      obtain ⟨r, hr⟩ : ∃ r, keys[k]? = some r := ⟨keys[k], List.getElem?_eq_getElem hlt⟩
      have htk : (keys.take (k + 1)).countP (holdsK x) = c + if holdsK x r then 1 else 0 := by
        rw [List.take_add_one, hr, HK.out]; simp [List.countP_cons]
      obtain ⟨b, off, rfl, hb, c0⟩ := HC.out k r hr
      obtain ⟨co, nm, tt, kn, s1, s2, s3, t1, t2, t3, hz⟩ := H6.out k r hr
      have cI := CI.out k r hr
      rw [hz] at c0 cI
      have hbw := Y2.out.trans (hbr.mono Y2.out.size)
      have d0 := (hbw.cell (p := ⟨b, off + k * 6, none⟩) hb).trans (c0 0 _ rfl)
      have d1 := (hbw.cell (p := ⟨b, off + k * 6 + 1, none⟩) hb).trans (c0 1 _ rfl)
      have d2 := (hbw.cell (p := ⟨b, off + k * 6 + 2, none⟩) hb).trans (c0 2 _ rfl)
      have d3 := (hbw.cell (p := ⟨b, off + k * 6 + 3, none⟩) hb).trans (c0 3 _ rfl)
      have d4 := (hbw.cell (p := ⟨b, off + k * 6 + 4, none⟩) hb).trans (c0 4 _ rfl)
      have d5 := (hbw.cell (p := ⟨b, off + k * 6 + 5, none⟩) hb).trans (c0 5 _ rfl)
      have hltz : (k : Int) < (keys.length : Int) := by omega
      clear c0 hz hr
      have hb5 := (Below.refl wr.heap.size wr).alloc (Nat.le_refl _) (.cells #[.int .i64 co, .string ⟨nm.toArray⟩, .string ⟨tt.toArray⟩, .int .i64 kn, .slice s1 s2 s3, .slice t1 t2 t3] 32)
      have x5 := World.heap_alloc_new wr (.cells #[.int .i64 co, .string ⟨nm.toArray⟩, .string ⟨tt.toArray⟩, .int .i64 kn, .slice s1 s2 s3, .slice t1 t2 t3] 32)
      obtain ⟨w5, hw5⟩ : ∃ w5, wr.alloc (.cells #[.int .i64 co, .string ⟨nm.toArray⟩, .string ⟨tt.toArray⟩, .int .i64 kn, .slice s1 s2 s3, .slice t1 t2 t3] 32) = w5 := ⟨_, rfl⟩
      rw [hw5] at hb5 x5
      have HW5 := Lib.hid hw5
      have hb25 := hbr.trans (hb5.mono hbr.size)
      obtain ⟨p0, p1, p2, p3, p4, p5⟩ := six_cells' x5
      obtain ⟨l0, l1, l2, l3⟩ := four_cells (below_same hb25 LL2.out)
      have cI1 := cI w5 (Y2.out.trans (hb25.mono Y2.out.size))
      have YB := Lib.hid hb25
      clear hw5 hb5 x5 hb25 cI
      go_upto_region 41 with fail
      rw [show wr.alloc (.cells #[.int .i64 co, .string ⟨nm.toArray⟩, .string ⟨tt.toArray⟩, .int .i64 kn, .slice s1 s2 s3, .slice t1 t2 t3] 32) = w5 from HW5.out]
      cases hp : holdsK x r with
      | true =>
        rw [hp] at cI1 htk
        have HT := Lib.hid (show c + 1 = _ from htk.symm)
        clear hp htk
        go_wp2_with (go_at_call 11; go_loud (((with_reducible refine cI1.mono ?_); rintro e w6 ⟨rfl, h6⟩; have y6 := YB.out.trans (h6.mono YB.out.size))))
        go_roundg g'
        case measure => omega
        case rel => exact ⟨k + 1, c + 1, by omega, by go_num, by go_num, by omega, y6, HT⟩
      | false =>
        rw [hp] at cI1 htk
        have HT := Lib.hid (show c = _ from htk.symm)
        clear hp htk
        go_wp2_with (go_at_call 11; go_loud (((with_reducible refine cI1.mono ?_); rintro e w6 ⟨rfl, h6⟩; have y6 := YB.out.trans (h6.mono YB.out.size))))
        go_roundg g'
        case measure => omega
        case rel => exact ⟨k + 1, c, by omega, by go_num, by go_num, by omega, y6, HT⟩
    · obtain rfl : k = keys.length := by omega
      have hc := HK.out
      rw [List.take_length] at hc
      have hR := HR.out
      rw [← hc] at hR
      obtain ⟨k0, k1, k2, k3, k4, k5⟩ := six_cells' (below_same hbr KK2.out)
      clear HK hc
      by_cases h0 : c = keys.length
      · have hX : R = true := by rw [← hR]; exact decide_eq_true h0
        subst hX
        have h1 : (c : Int) = (keys.length : Int) := by omega
        have h2 : ((c : Int) == (keys.length : Int)) = true := by rw [beq_iff_eq]; exact h1
        clear hR h0
        go_wp2_with fail
        go_ret
        exact ⟨rfl, Y2.out.trans (hbr.mono Y2.out.size)⟩
      · have hX : R = false := by rw [← hR]; exact decide_eq_false h0
        subst hX
        have h1 : ¬ (c : Int) = (keys.length : Int) := by omega
        have h2 : ((c : Int) == (keys.length : Int)) = false := by rw [beq_eq_false_iff_ne]; exact h1
        have h3 : decide ((c : Int) = (keys.length : Int)) = false := decide_eq_false h1
        clear hR h0
        go_wp2_with fail
        go_ret
        exact ⟨rfl, Y2.out.trans (hbr.mono Y2.out.size)⟩
/-- Found answers as its plain function does -/
theorem found_any (x : LetK) (fv : Value) (hl : x.flags.length ≤ 1000000) (hx : x.text.length ≤ 9000) {W0 : World} {ok : Nat → Prop} {cs : List Value} {k : KeyP} (h : KeyC W0 ok cs k) : okK k = true → ∀ w, Below W0.heap.size W0 w → SRow w fv x.flags → MaxL w → FineG w →
    Calls Tryz.prog 11 #[.agg cs.toArray, .agg #[.int .i64 x.uid, fv, .int .i64 x.day, .string ⟨x.text.toArray⟩], .int .i64 x.which, .int .i64 x.many, .int .i64 x.greatest] w fun e w' => e = .returned (.bool (holdsK x k)) ∧ Below w.heap.size w w' := by
  induction h with
  | mk code name text n set keys sa ka sc kc vs h1 h2 h3 h4 h5 h6 h7 h8 h9 hsub ih =>
    intro hok w hb hf hM hF
    rw [okK_mk, Bool.and_eq_true, decide_eq_true_eq, okAll_iff] at hok
    obtain ⟨hcode, hks⟩ := hok
    have hset : RgRow w (.slice sa set.length sc) set := (rg_same h2 h3 h4 h5).below hb
    have h6' : ∀ (j : Nat) (t : KeyP), keys[j]? = some t → ∃ (co : Int) (nm tt : List UInt8) (kn : Int) (s1 : Option Addr) (s2 s3 : Nat) (t1 : Option Addr) (t2 t3 : Nat), vs j = [.int .i64 co, .string ⟨nm.toArray⟩, .string ⟨tt.toArray⟩, .int .i64 kn, .slice s1 s2 s3, .slice t1 t2 t3] := fun j t hj => by
      obtain ⟨_, _, _, _, _, _, _, _, _, _, e⟩ := (hsub j t hj).six
      exact ⟨_, _, _, _, _, _, _, _, _, _, e⟩
    have hcell : ∀ (j : Nat) (t : KeyP), keys[j]? = some t → ∃ b off, ka = some ⟨b, off, none⟩ ∧ b < w.heap.size ∧ ∀ (i : Nat) (u : Value), (vs j)[i]? = some u → w.cell? ⟨b, off + j * 6 + i, none⟩ = some u := fun j t hj => by
      obtain ⟨g, off, e, -, hg, hc⟩ := h9 j t hj
      exact ⟨g, off, e, Nat.lt_of_lt_of_le hg hb.size, fun i u hu => (hb.cell (p := ⟨g, off + j * 6 + i, none⟩) hg).trans (hc i u hu)⟩
    have ihw : ∀ (j : Nat) (t : KeyP), keys[j]? = some t → ∀ W, Below w.heap.size w W → Calls Tryz.prog 11 #[.agg (vs j).toArray, .agg #[.int .i64 x.uid, fv, .int .i64 x.day, .string ⟨x.text.toArray⟩], .int .i64 x.which, .int .i64 x.many, .int .i64 x.greatest] W fun e w' => e = .returned (.bool (holdsK x t)) ∧ Below W.heap.size W w' :=
      fun j t hj W hW => ih j t hj (hks t (List.mem_of_getElem? hj)) W (hb.trans (hW.mono hb.size)) (hf.below hW) (MaxL.below hM hW) (FineG.below hF hW)
    have hkl : keys.length ≤ 9223372036854775807 := Nat.le_trans h7 h8
    rw [holdsK]
    by_cases c1 : code = 1
    · subst c1; exact found_all _ _ name text n fv x w hx hM
    rw [if_neg c1]
    by_cases c2 : code = 2
    · subst c2; exact found_flag _ _ name text n fv x w hx hM hf hl
    rw [if_neg c2]
    by_cases c3 : code = 3
    · subst c3
      rw [if_pos rfl]
      unfold headIs
      cases hE : fieldsL x.text with
      | inl E => exact found_head_bad _ _ name text n fv x w hx hM hF E hE
      | inr l => exact found_head_good _ _ name text n fv x w hx hM h1 hF l hE
    rw [if_neg c3]
    by_cases c4 : code = 4
    · subst c4; exact found_body _ _ name text n fv x w hx hM h1
    rw [if_neg c4]
    by_cases c5 : code = 5
    · subst c5; exact found_text _ _ name text n fv x w hx hM h1
    rw [if_neg c5]
    by_cases c6 : code = 6
    · subst c6; exact found_larger _ _ name text n fv x w hx hM
    rw [if_neg c6]
    by_cases c7 : code = 7
    · subst c7; exact found_smaller _ _ name text n fv x w hx hM
    rw [if_neg c7]
    by_cases c8 : code = 8
    · subst c8; exact found_before _ _ name text n fv x w hx hM
    rw [if_neg c8]
    by_cases c9 : code = 9
    · subst c9; exact found_on _ _ name text n fv x w hx hM
    rw [if_neg c9]
    by_cases c10 : code = 10
    · subst c10; exact found_since _ _ name text n fv x w hx hM
    rw [if_neg c10]
    by_cases c11 : code = 11
    · subst c11; exact found_uids _ name text n fv x w hx hM set _ hset
    rw [if_neg c11]
    by_cases c12 : code = 12
    · subst c12; exact found_numbers _ name text n fv x w hx hM set _ hset
    rw [if_neg c12]
    by_cases c13 : code = 13
    · subst c13
      rw [if_pos rfl]
      cases keys with
      | nil => exact absurd rfl (h6 rfl)
      | cons t r =>
        obtain ⟨co, nm, tt, kn, s1, s2, s3, t1, t2, t3, hv⟩ := h6' 0 t rfl
        obtain ⟨g, off, rfl, hg, hc⟩ := hcell 0 t rfl
        have hi := ihw 0 t rfl
        rw [hv] at hi hc
        rw [holdsOne]
        exact found_not _ name text n fv x w hx hM g off (t :: r).length kc (by simp) _ _ _ _ _ _ hg ⟨by simpa using hc 0 _ rfl, by simpa using hc 1 _ rfl, by simpa using hc 2 _ rfl, by simpa using hc 3 _ rfl, by simpa using hc 4 _ rfl, by simpa using hc 5 _ rfl⟩ (holdsK x t) hi
    rw [if_neg c13]
    by_cases c14 : code = 14
    · subst c14
      rw [if_pos rfl, any_count]
      exact found_or _ name text n fv x w hx hM keys ka kc vs hkl h6' hcell ihw
    rw [if_neg c14, all_count]
    obtain rfl : code = 15 := by omega
    exact found_and _ name text n fv x w hx hM keys ka kc vs hkl h6' hcell ihw
end Go.Proofs.YtcahhnjponeeeaaGreatDoor
