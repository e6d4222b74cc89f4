/- The walks over the reference's FlagSet, Holds, Without, PrintFlags and the law's texts and sameTexts: each returns what its plain function says. Condition: none. -/
import Derived.Test.YtiggekmhojlegaaGreatDoorRFlagB
import Derived.Test.YtiggekmhojlegaaGreatDoorFlagG
import Derived.Test.YtiggekmhojlegaaGreatDoorPFlags2
import Derived.Deep.RegionHeld3
namespace Go.Proofs.YtiggekmhojlegaaGreatDoor
open Go.RowKit Go.Shelf Go.Sort

theorem name_bad {s : List UInt8} {n : Nat} (h : nameF s = .inl n) : 0 < n := by
  unfold nameF at h
  split at h
  · split at h
    · cases h
    · cases h; decide
  · split at h
    · cases h; decide
    · split at h
      · cases h; decide
      · cases h
/-- what FlagSet returns -/
def RSetRes (R : Nat ⊕ List (List UInt8)) (v : Value) (W : World) : Prop := match R with
  | .inl n => v = .tuple #[.slice none 0 0, .int .i64 (n : Int)]
  | .inr L => ∃ sv, v = .tuple #[sv, .int .i64 0] ∧ SRow W sv L
set_option maxRecDepth 100000 in
set_option maxHeartbeats 4000000 in
theorem ltexts_any (v : Value) (l : List (List UInt8)) (w : World) (hv : SRow w v l) (ht : ∀ t ∈ l, t.length ≤ 9223372036854775807) :
    Calls Tryz.prog 4 #[v] w fun e w' => e = .returned (.bool (textsF l)) ∧ Below w.heap.size w w' := by
  obtain ⟨ao, cap, rfl, hcap, ⟨hcm, _⟩, hcell⟩ := hv
  have HC := Lib.hid hcell
  have HT := Lib.hid ht
  obtain ⟨R, hR⟩ : ∃ R, textsF l = R := ⟨_, rfl⟩
  rw [hR]
  clear hcell ht
  by_cases h40 : (40 : Int) < (l.length : Int)
  · have hX : R = false := by
      rw [← hR]; unfold textsF
      rw [decide_eq_false (by omega)]; rfl
    subst hX
    clear hR
    go_enter Tryz.func4, Tryz.ntmps4
    go_wp2_with fail
    go_ret
    exact ⟨rfl, Below.refl _ _⟩
  · have HR : Hid (R = (l.drop 0).all fun t => decide (t.length ≤ 100)) := by
      show _ = _
      rw [← hR]; unfold textsF
      rw [decide_eq_true (by omega)]; rfl
    clear hR
    go_enter Tryz.func4, Tryz.ntmps4
    go_wp2_with fail
    go_loopg [3] l.length (fun g3 s3 wr => ∃ k : Nat, k + g3 = l.length ∧ s3 = .int .i64 (k : Int) ∧ w = wr ∧ Hid (R = (l.drop k).all fun t => decide (t.length ≤ 100)))
    case atStart => exact ⟨0, by omega, rfl, rfl, HR.out⟩
    case round =>
      obtain ⟨k, hk, rfl, hw, HK⟩ := hrel
      subst hw
      clear HR
      by_cases hlt : k < l.length
      · obtain ⟨g', rfl⟩ : ∃ g', gk = g' + 1 := ⟨gk - 1, by omega⟩
        obtain ⟨s, hs⟩ : ∃ s, l[k]? = some s := ⟨l[k], List.getElem?_eq_getElem hlt⟩
        obtain ⟨b, off, rfl, hb, hc⟩ := HC.out k s hs
        have hsl := HT.out s (List.mem_of_getElem? hs)
        have ts := text_size s
        have hdr : l.drop k = s :: l.drop (k + 1) := by
          rw [List.drop_eq_getElem_cons hlt]
          rw [List.getElem?_eq_getElem hlt] at hs
          rw [Option.some.inj hs]
        have hK := HK.out
        rw [hdr, List.all_cons] at hK
        by_cases h100 : (100 : Int) < (s.length : Int)
        · have hX : R = false := by rw [hK, decide_eq_false (by omega)]; rfl
          subst hX
          clear hK HK hdr hs
          go_wp2_with fail
          go_ret
          exact ⟨rfl, Below.refl _ _⟩
        · have HK2 : Hid (R = (l.drop (k + 1)).all fun t => decide (t.length ≤ 100)) := by show _ = _; rw [hK, decide_eq_true (by omega)]; rfl
          clear hK HK hdr hs
          go_wp2_with fail
          go_roundg g'
          case measure => omega
          case rel => exact ⟨k + 1, by omega, by go_num, rfl, HK2.out⟩
      · have hX : R = true := by rw [HK.out, List.drop_eq_nil_of_le (by omega)]; rfl
        subst hX
        clear HK
        go_wp2_with fail
        go_ret
        exact ⟨rfl, Below.refl _ _⟩

set_option maxRecDepth 100000 in
set_option maxHeartbeats 8000000 in
theorem rset_any (v : Value) (l : List (List UInt8)) (w : World) (hv : SRow w v l) (hl : Short l) :
    Calls Tryz.prog 8 #[v] w fun e w' => ∃ r, e = .returned r ∧ RSetRes (setF l) r w' ∧ Below w.heap.size w w' := by
  obtain ⟨ao, cap, rfl, hcap, _, hcell⟩ := hv
  obtain ⟨hll, htl⟩ := hl
  have HC := Lib.hid hcell
  have HT := Lib.hid htl
  obtain ⟨R, hR⟩ : ∃ R, setF l = R := ⟨_, rfl⟩
  rw [hR]
  have HR := Lib.hid hR
  clear hcell htl hR
  go_enter Tryz.func8, Tryz.ntmps8
  go_wp2_with fail
  go_loopg [4, 12] l.length (fun g4 s4 s12 wr => ∃ (k : Nat) (acc : List (List UInt8)) (ov : Value), k + g4 = l.length ∧ s12 = .int .i64 (k : Int) ∧ ov = s4 ∧ acc.length = k ∧ wr.ownsRow w.heap.size 9 1 ov acc.length (acc.map encStr) ∧ Below w.heap.size w wr ∧ (acc = [] → ov = .slice none 0 0) ∧ Hid (namesF l = joinN acc (namesF (l.drop k))))
  case atStart => exact ⟨0, [], _, by omega, rfl, rfl, rfl, World.ownsRow_nil _ _ _ _, Below.refl _ _, fun _ => rfl, by show _ = _; rw [List.drop_zero, join_nil]⟩
  case round =>
    obtain ⟨k, acc, ov, hk, rfl, rfl, hak, hown, hbr, hnil, HN⟩ := hrel
    by_cases hlt : k < l.length
    · obtain ⟨g', rfl⟩ : ∃ g', gk = g' + 1 := ⟨gk - 1, by omega⟩
      obtain ⟨s, hs⟩ : ∃ s, l[k]? = some s := ⟨l[k], List.getElem?_eq_getElem hlt⟩
      obtain ⟨b, off, rfl, hb, hc⟩ := HC.out k s hs
      have hd := (hbr.cell (p := ⟨b, off + k, none⟩) hb).trans hc
      have hsl := HT.out s (List.mem_of_getElem? hs)
      have hdr : l.drop k = s :: l.drop (k + 1) := by
        rw [List.drop_eq_getElem_cons hlt]
        rw [List.getElem?_eq_getElem hlt] at hs
        rw [Option.some.inj hs]
      have hN := HN.out
      rw [hdr] at hN
      have cN := rname_any s wr (by omega)
      cases hn : nameF s with
      | inl n =>
        rw [join_bad hn] at hN
        rw [hn] at cN
        have hX : R = .inl n := by rw [← HR.out, setF, hN]
        have HX := Lib.hid hX
        have hnz := name_bad hn
        have hnb : ((n : Int) == 0) = false := by rw [beq_eq_false_iff_ne]; omega
        have hnc : ¬ ((n : Int) = 0) := by omega
        have hnd : ¬ (n = 0) := by omega
        have cN2 : Calls Tryz.prog 5 #[.string ⟨s.toArray⟩] wr fun e w' => e = .returned (.tuple #[.string ⟨#[]⟩, .int .i64 (n : Int)]) ∧ Below wr.heap.size wr w' := cN
        clear hN hn hX hdr hs cN HN hc
        go_wp2_with (go_at_call 5; with_reducible refine cN2.mono ?_; rintro e w1 ⟨rfl, h⟩; have y := hbr.trans (h.mono hbr.size))
        go_ret2
        exact ⟨_, rfl, by rw [HX.out]; rfl, y⟩
      | inr t =>
        rw [join_ok hn] at hN
        rw [hn] at cN
        have HN2 : Hid (namesF l = joinN (acc ++ [t]) (namesF (l.drop (k + 1)))) := hN
        have cN2 : Calls Tryz.prog 5 #[.string ⟨s.toArray⟩] wr fun e w' => e = .returned (.tuple #[.string ⟨t.toArray⟩, .int .i64 0]) ∧ Below wr.heap.size wr w' := cN
        have HA := Lib.hid hak
        have hal : acc.length ≤ 100000 := by omega
        clear hN hn hdr hs cN HN hc hak hnil
        go_wp2_with (first
          | (go_at_call 5; with_reducible refine cN2.mono ?_; rintro e w1 ⟨rfl, h⟩; have y := hbr.trans (h.mono hbr.size); have o1 := owns_same hown (fun j o hj _ => below_same h hj))
          | (at_builtin; go_must (refine wpList_app1 rfl _ _ 22 rfl 9 Tryz.underlying22 str_info rfl w.heap.size _ _ _ _ rfl o1 _ rfl rfl ?hn (by decide) ?hb ?_)))
        case hn => omega
        case hb => exact y.size
        intro v' w2 o2 g2 hv2
        have y2 := below_app y y.size o1 g2
        have o3 : w2.ownsRow w.heap.size 9 1 v' (acc ++ [t]).length ((acc ++ [t]).map encStr) := by
          rw [List.length_append, List.map_append]; exact o2
        go_wp2_with fail
        go_roundg g'
        case measure => omega
        case rel => exact ⟨k + 1, acc ++ [t], _, by omega, by go_num, rfl, by rw [List.length_append, HA.out]; rfl, o3, y2, fun h => by simp at h, HN2.out⟩
    · have hd0 : l.drop k = [] := List.drop_eq_nil_of_le (by omega)
      have hN := HN.out
      rw [hd0] at hN
      have hN2 : namesF l = .inr acc := by rw [hN]; show joinN acc (.inr []) = _; simp [joinN]
      have hX : R = if 12 < (canonF acc).length then .inl 4 else .inr (canonF acc) := by rw [← HR.out, setF, hN2]
      have HX := Lib.hid hX
      have hacc : ∀ t ∈ acc, t.length ≤ 1000000 := fun t ht => by
        have := (names_ok hN2).2
        rw [this] at ht
        obtain ⟨u, hu, rfl⟩ := List.mem_map.1 ht
        have := name_len ((names_ok hN2).1 u hu)
        omega
      have cO := ordered_any ov acc wr (srow_owns hown) (by omega) hacc
      clear hN hN2 hX hd0 HN hacc
      by_cases h12 : 12 < (canonF acc).length
      · have h12z : (12 : Int) < ((canonF acc).length : Int) := by omega
        go_wp2_with (go_at_call 12; go_loud ((with_reducible refine cO.mono ?_); rintro e w1 ⟨r, rfl, hr, h⟩; have y := hbr.trans (h.mono hbr.size); have hr1 := Lib.hid hr; obtain ⟨ao1, cap1, rfl, _⟩ := hr; clear h))
        go_ret2
        exact ⟨_, rfl, by rw [HX.out, if_pos h12]; rfl, y⟩
      · have h12z : ¬((12 : Int) < ((canonF acc).length : Int)) := by omega
        go_wp2_with (go_at_call 12; go_loud ((with_reducible refine cO.mono ?_); rintro e w1 ⟨r, rfl, hr, h⟩; have y := hbr.trans (h.mono hbr.size); have hr1 := Lib.hid hr; obtain ⟨ao1, cap1, rfl, _⟩ := hr; clear h))
        go_ret2
        exact ⟨_, rfl, by rw [HX.out, if_neg h12]; exact ⟨_, rfl, hr1.out⟩, y⟩
set_option maxRecDepth 100000 in
set_option maxHeartbeats 2000000 in
theorem rprintFl_any (v : Value) (l : List (List UInt8)) (w : World) (hv : SRow w v l) (hl : Short l) :
    Calls Tryz.prog 16 #[v] w fun e w' => e = .returned (.string ⟨(printFl l).toArray⟩) ∧ Below w.heap.size w w' := by
  have cJ := join_any v l w hv hl
  have hj := join_le l hl.2
  have hmul : l.length * 100001 ≤ 100000 * 100001 := Nat.mul_le_mul_right _ hl.1
  unfold printFl
  generalize Lib.join l [32] = J at *
  have hJ : J.length ≤ 10000100000 := by omega
  obtain ⟨q1, hq1⟩ : ∃ q1, q1 = [40] ++ J := ⟨_, rfl⟩
  obtain ⟨q2, hq2⟩ : ∃ q2, q2 = q1 ++ [41] := ⟨_, rfl⟩
  have a1 : (⟨#[40]⟩ : ByteArray) ++ ⟨J.toArray⟩ = ⟨q1.toArray⟩ := by rw [hq1]; exact text_cat _ _
  have a2 : (⟨q1.toArray⟩ : ByteArray) ++ ⟨#[41]⟩ = ⟨q2.toArray⟩ := by rw [hq2]; exact text_cat _ _
  rw [← hq1, ← hq2]
  have l1 : q1.length ≤ 10000100001 := by rw [hq1, List.length_append]; show 1 + _ ≤ _; omega
  have tJ := text_size J
  have t1 := text_size q1
  clear hq1 hq2 hj hmul hl hv
  go_enter Tryz.func16, Tryz.ntmps16
  go_wp2_with (go_at_call 37; with_reducible refine cJ.mono ?_; rintro e w1 ⟨rfl, h⟩)
  go_ret
  exact ⟨rfl, h⟩


set_option maxRecDepth 100000 in
set_option maxHeartbeats 4000000 in
theorem holds_any (v : Value) (l : List (List UInt8)) (s : List UInt8) (w : World) (hv : SRow w v l) (hl : l.length ≤ 1000000) :
    Calls Tryz.prog 18 #[v, .string ⟨s.toArray⟩] w fun e w' => e = .returned (.bool (decide (s ∈ l))) ∧ w = w' := by
  obtain ⟨ao, cap, rfl, hcap, ⟨hcm, _⟩, hcell⟩ := hv
  have HC := Lib.hid hcell
  obtain ⟨R, hR⟩ : ∃ R, decide (s ∈ l) = R := ⟨_, rfl⟩
  rw [hR]
  have HR : Hid (R = decide (s ∈ l.drop 0)) := by show _ = _; rw [← hR]; rfl
  clear hcell hR
  go_enter Tryz.func18, Tryz.ntmps18
  go_wp2_with fail
  go_loopg [9] l.length (fun g9 s9 wr => ∃ k : Nat, k + g9 = l.length ∧ s9 = .int .i64 (k : Int) ∧ w = wr ∧ Hid (R = decide (s ∈ l.drop k)))
  case atStart => exact ⟨0, by omega, rfl, rfl, HR.out⟩
  case round =>
    obtain ⟨k, hk, rfl, hw, HK⟩ := hrel
    subst hw
    clear HR
    by_cases hlt : k < l.length
    · obtain ⟨g', rfl⟩ : ∃ g', gk = g' + 1 := ⟨gk - 1, by omega⟩
      obtain ⟨t, ht⟩ : ∃ t, l[k]? = some t := ⟨l[k], List.getElem?_eq_getElem hlt⟩
      obtain ⟨b, off, rfl, hb, hc⟩ := HC.out k t ht
      have hdr : l.drop k = t :: l.drop (k + 1) := by
        rw [List.drop_eq_getElem_cons hlt]
        rw [List.getElem?_eq_getElem hlt] at ht
        rw [Option.some.inj ht]
      have hK := HK.out
      rw [hdr] at hK
      by_cases he : t = s
      · subst he
        have hX : R = true := by rw [hK]; simp
        subst hX
        clear hK HK hdr ht
        go_wp2_with fail
        go_ret
        exact ⟨rfl, rfl⟩
      · have HK2 : Hid (R = decide (s ∈ l.drop (k + 1))) := by
          show _ = _
          rw [hK]
          have : ¬ s = t := fun e => he e.symm
          simp [this]
        have n5 : (t == s) = false := by rw [beq_eq_false_iff_ne]; exact he
        clear hK HK hdr ht
        go_wp2_with fail
        go_roundg g'
        case measure => omega
        case rel => exact ⟨k + 1, by omega, by go_num, rfl, HK2.out⟩
    · have hX : R = false := by rw [HK.out, List.drop_eq_nil_of_le (by omega)]; simp
      subst hX
      clear HK
      go_wp2_with fail
      go_ret
      exact ⟨rfl, rfl⟩

set_option maxRecDepth 100000 in
set_option maxHeartbeats 4000000 in
theorem without_any (av bv : Value) (a b : List (List UInt8)) (w : World) (ha : SRow w av a) (hb : SRow w bv b) (hal : a.length ≤ 100000) (hbl : b.length ≤ 1000000) :
    Calls Tryz.prog 14 #[av, bv] w fun e w' => ∃ r, e = .returned r ∧ SRow w' r (notF a b) ∧ Below w.heap.size w w' := by
  have cH := fun s W (h : Below w.heap.size w W) => holds_any bv b s W (hb.below h) hbl
  obtain ⟨ao, cap, rfl, hcap, ⟨hcm, _⟩, hcell⟩ := ha
  have HC := Lib.hid hcell
  clear hcell hb
  go_enter Tryz.func14, Tryz.ntmps14
  go_wp2_with fail
  go_loopg [5, 10] a.length (fun g5 s5 s10 wr => ∃ (k : Nat) (acc : List (List UInt8)) (ov : Value), k + g5 = a.length ∧ s10 = .int .i64 (k : Int) ∧ ov = s5 ∧ acc.length ≤ k ∧ wr.ownsRow w.heap.size 9 1 ov acc.length (acc.map encStr) ∧ Below w.heap.size w wr ∧ Hid (acc = notF (a.take k) b))
  case atStart => exact ⟨0, [], _, by omega, rfl, rfl, Nat.le_refl _, World.ownsRow_nil _ _ _ _, Below.refl _ _, rfl⟩
  case round =>
    obtain ⟨k, acc, ov, hk, rfl, rfl, hak, hown, hbr, HA⟩ := hrel
    by_cases hlt : k < a.length
    · obtain ⟨g', rfl⟩ : ∃ g', gk = g' + 1 := ⟨gk - 1, by omega⟩
      obtain ⟨s, hs⟩ : ∃ s, a[k]? = some s := ⟨a[k], List.getElem?_eq_getElem hlt⟩
      obtain ⟨b', off, rfl, hb', hc⟩ := HC.out k s hs
      have hd := (hbr.cell (p := ⟨b', off + k, none⟩) hb').trans hc
      have htk : a.take (k + 1) = a.take k ++ [s] := by rw [List.take_add_one, hs]; rfl
      have cS := cH s wr hbr
      by_cases hin : s ∈ b
      · have HA2 : Hid (acc = notF (a.take (k + 1)) b) := by
          show _ = _
          rw [htk, HA.out]; simp [notF, hin]
        rw [decide_eq_true hin] at cS
        clear htk hs hc HA hin
        go_wp2_with (go_at_call 18; with_reducible refine cS.mono ?_; rintro e w1 ⟨rfl, hw⟩; subst hw)
        go_roundg g'
        case measure => omega
        case rel => exact ⟨k + 1, acc, _, by omega, by go_num, rfl, by omega, hown, hbr, HA2.out⟩
      · have HA2 : Hid (acc ++ [s] = notF (a.take (k + 1)) b) := by
          show _ = _
          rw [htk, HA.out]; simp [notF, hin]
        rw [decide_eq_false hin] at cS
        clear htk hs hc HA hin
        go_wp2_with (first
          | (go_at_call 18; with_reducible refine cS.mono ?_; rintro e w1 ⟨rfl, hw⟩; subst hw)
          | (at_builtin; go_must (refine wpList_app1 rfl _ _ 22 rfl 9 Tryz.underlying22 str_info rfl w.heap.size _ _ _ _ rfl hown _ rfl rfl ?hn (by decide) hbr.size ?_)))
        case hn => omega
        intro v' w2 o2 g2 hv2
        have y2 := below_app hbr hbr.size hown g2
        have o3 : w2.ownsRow w.heap.size 9 1 v' (acc ++ [s]).length ((acc ++ [s]).map encStr) := by
          rw [List.length_append, List.map_append]; exact o2
        go_wp2_with fail
        go_roundg g'
        case measure => omega
        case rel => exact ⟨k + 1, acc ++ [s], _, by omega, by go_num, rfl, by simp; omega, o3, y2, HA2.out⟩
    · obtain rfl : k = a.length := by omega
      have hA : acc = notF a b := by rw [HA.out, List.take_length]
      subst hA
      go_wp2_with fail
      go_ret
      exact ⟨_, rfl, srow_owns hown, hbr⟩

set_option maxRecDepth 100000 in
set_option maxHeartbeats 4000000 in
theorem same_any (v u : Value) (l : List (List UInt8)) (w : World) (hv : SRow w v l) (hu : SRow w u l) :
    Calls Tryz.prog 10 #[v, u] w fun e w' => e = .returned (.bool true) ∧ Below w.heap.size w w' := by
  obtain ⟨ao, cap, rfl, hcap, ⟨hcm, _⟩, hcell⟩ := hv
  obtain ⟨bo, cap', rfl, hcap', ⟨hcm', _⟩, hcell'⟩ := hu
  have HC := Lib.hid hcell
  have HD := Lib.hid hcell'
  clear hcell hcell'
  go_enter Tryz.func10, Tryz.ntmps10
  go_wp2_with fail
  go_loopg [5] l.length (fun g5 s5 wr => ∃ k : Nat, k + g5 = l.length ∧ s5 = .int .i64 (k : Int) ∧ Below w.heap.size w wr)
  case atStart => exact ⟨0, by omega, rfl, Below.refl _ _⟩
  case round =>
    obtain ⟨k, hk, rfl, hbr⟩ := hrel
    by_cases hlt : k < l.length
    · obtain ⟨g', rfl⟩ : ∃ g', gk = g' + 1 := ⟨gk - 1, by omega⟩
      obtain ⟨t, ht⟩ : ∃ t, l[k]? = some t := ⟨l[k], List.getElem?_eq_getElem hlt⟩
      obtain ⟨b, off, rfl, hb, hc⟩ := HC.out k t ht
      obtain ⟨b2, off2, rfl, hb2, hc2⟩ := HD.out k t ht
      have d1 : wr.drew.cell? ⟨b, off + k, none⟩ = some (.string ⟨t.toArray⟩) := (hbr.cell (p := ⟨b, off + k, none⟩) hb).trans hc
      have d2 : wr.drew.cell? ⟨b2, off2 + k, none⟩ = some (.string ⟨t.toArray⟩) := (hbr.cell (p := ⟨b2, off2 + k, none⟩) hb2).trans hc2
      have yd := hbr.drew
      clear ht hc hc2
      go_wp2_with fail
      go_region_held3 (fun W => W.cell? ⟨b, off + k, none⟩ = some (.string ⟨t.toArray⟩) ∧ W.cell? ⟨b2, off2 + k, none⟩ = some (.string ⟨t.toArray⟩))
        (first | exact ⟨d1, d2⟩) (fail)
      all_goals
        go_wp2_with fail
        go_roundg g'
        case measure => omega
        case rel => exact ⟨k + 1, by omega, by go_num, yd⟩
    · go_wp2_with fail
      go_ret
      exact ⟨rfl, hbr⟩
end Go.Proofs.YtiggekmhojlegaaGreatDoor
