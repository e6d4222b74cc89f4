/- The walks over the reference's InSet, SetOf, and the laws' sameRanges. No condition beyond those each names. -/
import Derived.Test.YtclelkoefeiloaaGreatDoorRSetA
import Derived.Test.YtclelkoefeiloaaGreatDoorSeqE
namespace Go.Proofs.YtclelkoefeiloaaGreatDoor
open Go.RowKit Go.Shelf Go.Sort
set_option linter.unusedSimpArgs false

theorem in_two (a b n : Int) : (decide (min a b ≤ n) && decide (n ≤ max a b)) = ((decide (a ≤ n) && decide (n ≤ b)) || (decide (b ≤ n) && decide (n ≤ a))) := by
  rw [Bool.eq_iff_iff]
  simp only [Bool.and_eq_true, Bool.or_eq_true, decide_eq_true_eq]
  omega
set_option maxRecDepth 100000 in
set_option maxHeartbeats 8000000 in
theorem inSet_any (v : Value) (l : List Rg) (n gr : Int) (w : World) (hv : RgRow w v l) : Calls Tryz.prog 13 #[v, .int .i64 n, .int .i64 gr] w fun e w' => e = .returned (.bool (hasS l n gr)) ∧ Below w.heap.size w w' := by
  obtain ⟨ao, cap, rfl, hcap, hcm, hcell⟩ := hv
  have HC := Lib.hid hcell
  have hlm : l.length ≤ 9223372036854775807 := by omega
  clear hcell hcap hcm
  go_enter Tryz.func13, Tryz.ntmps13
  go_wp2_with fail
  go_loopg [11] l.length (fun g s11 wr => ∃ k : Nat, k + g = l.length ∧ s11 = .int .i64 (k : Int) ∧ Below w.heap.size w wr ∧ Hid ((l.take k).any (inR n gr) = false))
  case atStart => exact ⟨0, by omega, rfl, Below.refl _ _, Lib.hid rfl⟩
  case round =>
    obtain ⟨k, hk, rfl, hbr, HT⟩ := hrel
    by_cases hlt : k < l.length
    · obtain ⟨g', rfl⟩ : ∃ g', gk = g' + 1 := ⟨gk - 1, by omega⟩
      obtain ⟨r, hr⟩ : ∃ r, l[k]? = some r := ⟨l[k], List.getElem?_eq_getElem hlt⟩
      have htk : (l.take (k + 1)).any (inR n gr) = ((l.take k).any (inR n gr) || inR n gr r) := by rw [List.take_add_one, hr]; simp
      rw [HT.out, Bool.false_or] at htk
      obtain ⟨b, off, rfl, hb, c0, c1⟩ := HC.out k r hr
      have d0 := (hbr.cell (p := ⟨b, off + k * 2, none⟩) hb).trans c0
      have d1 := (hbr.cell (p := ⟨b, off + k * 2 + 1, none⟩) hb).trans c1
      have hltz : (k : Int) < (l.length : Int) := by omega
      have HX : Hid (inR n gr r = true → hasS l n gr = true) := Lib.hid (fun h => by
        unfold hasS; rw [List.any_eq_true]; exact ⟨r, List.mem_of_getElem? hr, h⟩)
      obtain ⟨a, c⟩ := r
      have hin : inR n gr (a, c) = (decide (min (if a = 0 then gr else a) (if c = 0 then gr else c) ≤ n) && decide (n ≤ max (if a = 0 then gr else a) (if c = 0 then gr else c))) := rfl
      rw [in_two] at hin
      have hz := alloc_size wr (.cells #[.int .i64 a, .int .i64 c] 47)
      dsimp only at d0 d1 ⊢
      clear c0 c1 hr
      by_cases h1 : a = 0
      · by_cases h2 : c = 0
        · rw [if_pos h1, if_pos h2] at hin
          subst h1
          subst h2
          have HYA := Lib.hid (hbr.alloc hbr.size (.cells #[.int .i64 gr, .int .i64 gr] 47))
          have cA := fun W => in_any n gr gr W
          generalize (decide (gr ≤ n) && decide (n ≤ gr)) = P1 at cA hin
          have cB := cA
          rw [Bool.or_self] at hin
          cases P1 with
          | true =>
            have HR := Lib.hid (HX.out hin)
            clear hin htk
            go_wp2_with (go_at_call 33; go_loud (((with_reducible refine (cA _).mono ?_); rintro e w0 ⟨rfl, rfl⟩)))
            go_ret
            exact ⟨by rw [HR.out]; rfl, HYA.out⟩
          | false =>
            have HT2 := Lib.hid (htk.trans hin)
            clear hin htk
            go_wp2_with (go_at_call 33; go_loud (((with_reducible refine (cA _).mono ?_); rintro e w0 ⟨rfl, rfl⟩)))
            go_roundg g'
            case measure => omega
            case rel => exact ⟨k + 1, by omega, by go_num, HYA.out, HT2⟩
        · rw [if_pos h1, if_neg h2] at hin
          subst h1
          have h2b : (c == 0) = false := by simpa using h2
          have HYA := Lib.hid (hbr.alloc hbr.size (.cells #[.int .i64 gr, .int .i64 c] 47))
          have cA := fun W => in_any n gr c W
          have cB := fun W => in_any n c gr W
          generalize (decide (gr ≤ n) && decide (n ≤ c)) = P1 at cA hin
          generalize (decide (c ≤ n) && decide (n ≤ gr)) = P2 at cB hin
          cases P1 with
          | true =>
            have HR := Lib.hid (HX.out (hin.trans (Bool.true_or _)))
            clear hin htk
            go_wp2_with (go_at_call 33; go_loud (((with_reducible refine (cA _).mono ?_); rintro e w0 ⟨rfl, rfl⟩)))
            go_ret
            exact ⟨by rw [HR.out]; rfl, HYA.out⟩
          | false =>
            cases P2 with
            | true =>
              have HR := Lib.hid (HX.out hin)
              clear hin htk
              go_wp2_with (first
                | (go_at_call 33; (with_reducible refine (cA _).mono ?_); rintro e w0 ⟨rfl, rfl⟩; clear cA)
                | (go_at_call 33; (with_reducible refine (cB _).mono ?_); rintro e w0 ⟨rfl, rfl⟩))
              go_ret
              exact ⟨by rw [HR.out]; rfl, HYA.out⟩
            | false =>
              have HT2 := Lib.hid (htk.trans hin)
              clear hin htk
              go_wp2_with (first
                | (go_at_call 33; (with_reducible refine (cA _).mono ?_); rintro e w0 ⟨rfl, rfl⟩; clear cA)
                | (go_at_call 33; (with_reducible refine (cB _).mono ?_); rintro e w0 ⟨rfl, rfl⟩))
              go_roundg g'
              case measure => omega
              case rel => exact ⟨k + 1, by omega, by go_num, HYA.out, HT2⟩
      · by_cases h2 : c = 0
        · rw [if_neg h1, if_pos h2] at hin
          have h1b : (a == 0) = false := by simpa using h1
          subst h2
          have HYA := Lib.hid (hbr.alloc hbr.size (.cells #[.int .i64 a, .int .i64 gr] 47))
          have cA := fun W => in_any n a gr W
          have cB := fun W => in_any n gr a W
          generalize (decide (a ≤ n) && decide (n ≤ gr)) = P1 at cA hin
          generalize (decide (gr ≤ n) && decide (n ≤ a)) = P2 at cB hin
          cases P1 with
          | true =>
            have HR := Lib.hid (HX.out (hin.trans (Bool.true_or _)))
            clear hin htk
            go_wp2_with (go_at_call 33; go_loud (((with_reducible refine (cA _).mono ?_); rintro e w0 ⟨rfl, rfl⟩)))
            go_ret
            exact ⟨by rw [HR.out]; rfl, HYA.out⟩
          | false =>
            cases P2 with
            | true =>
              have HR := Lib.hid (HX.out hin)
              clear hin htk
              go_wp2_with (first
                | (go_at_call 33; (with_reducible refine (cA _).mono ?_); rintro e w0 ⟨rfl, rfl⟩; clear cA)
                | (go_at_call 33; (with_reducible refine (cB _).mono ?_); rintro e w0 ⟨rfl, rfl⟩))
              go_ret
              exact ⟨by rw [HR.out]; rfl, HYA.out⟩
            | false =>
              have HT2 := Lib.hid (htk.trans hin)
              clear hin htk
              go_wp2_with (first
                | (go_at_call 33; (with_reducible refine (cA _).mono ?_); rintro e w0 ⟨rfl, rfl⟩; clear cA)
                | (go_at_call 33; (with_reducible refine (cB _).mono ?_); rintro e w0 ⟨rfl, rfl⟩))
              go_roundg g'
              case measure => omega
              case rel => exact ⟨k + 1, by omega, by go_num, HYA.out, HT2⟩
        · rw [if_neg h1, if_neg h2] at hin
          have h1b : (a == 0) = false := by simpa using h1
          have h2b : (c == 0) = false := by simpa using h2
          have HYA := Lib.hid (hbr.alloc hbr.size (.cells #[.int .i64 a, .int .i64 c] 47))
          have cA := fun W => in_any n a c W
          have cB := fun W => in_any n c a W
          generalize (decide (a ≤ n) && decide (n ≤ c)) = P1 at cA hin
          generalize (decide (c ≤ n) && decide (n ≤ a)) = P2 at cB hin
          cases P1 with
          | true =>
            have HR := Lib.hid (HX.out (hin.trans (Bool.true_or _)))
            clear hin htk
            go_wp2_with (go_at_call 33; go_loud (((with_reducible refine (cA _).mono ?_); rintro e w0 ⟨rfl, rfl⟩)))
            go_ret
            exact ⟨by rw [HR.out]; rfl, HYA.out⟩
          | false =>
            cases P2 with
            | true =>
              have HR := Lib.hid (HX.out hin)
              clear hin htk
              go_wp2_with (first
                | (go_at_call 33; (with_reducible refine (cA _).mono ?_); rintro e w0 ⟨rfl, rfl⟩; clear cA)
                | (go_at_call 33; (with_reducible refine (cB _).mono ?_); rintro e w0 ⟨rfl, rfl⟩))
              go_ret
              exact ⟨by rw [HR.out]; rfl, HYA.out⟩
            | false =>
              have HT2 := Lib.hid (htk.trans hin)
              clear hin htk
              go_wp2_with (first
                | (go_at_call 33; (with_reducible refine (cA _).mono ?_); rintro e w0 ⟨rfl, rfl⟩; clear cA)
                | (go_at_call 33; (with_reducible refine (cB _).mono ?_); rintro e w0 ⟨rfl, rfl⟩))
              go_roundg g'
              case measure => omega
              case rel => exact ⟨k + 1, by omega, by go_num, HYA.out, HT2⟩
    · have HA : Hid (hasS l n gr = false) := Lib.hid (by have := HT.out; rwa [List.take_of_length_le (by omega)] at this)
      go_wp2_with fail
      go_ret
      exact ⟨by rw [HA.out]; rfl, hbr⟩
set_option maxRecDepth 100000 in
set_option maxHeartbeats 4000000 in
theorem sameR_any (u v : Value) (l : List Rg) (w : World) (hu : RgRow w u l) (hv : RgRow w v l) : Calls Tryz.prog 7 #[u, v] w fun e w' => e = .returned (.bool true) ∧ Below w.heap.size w w' := by
  obtain ⟨ao, cap, rfl, hcap, hcm, hcell⟩ := hu
  obtain ⟨bo, cap2, rfl, hcap2, hcm2, hcell2⟩ := hv
  have HC := Lib.hid hcell
  have HD := Lib.hid hcell2
  have hlm : l.length ≤ 9223372036854775807 := by omega
  clear hcell hcell2 hcap hcm hcap2 hcm2
  go_enter Tryz.func7, Tryz.ntmps7
  go_wp2_with fail
  go_loopg [5] l.length (fun g s5 wr => ∃ k : Nat, k + g = l.length ∧ s5 = .int .i64 (k : Int) ∧ Below w.heap.size w wr)
  case atStart => exact ⟨0, by omega, rfl, Below.refl _ _⟩
  case round =>
    obtain ⟨k, hk, rfl, hbr⟩ := hrel
    by_cases hlt : k < l.length
    · obtain ⟨g', rfl⟩ : ∃ g', gk = g' + 1 := ⟨gk - 1, by omega⟩
      obtain ⟨r, hr⟩ : ∃ r, l[k]? = some r := ⟨l[k], List.getElem?_eq_getElem hlt⟩
      obtain ⟨b, off, rfl, hb, c0, c1⟩ := HC.out k r hr
      obtain ⟨b2, off2, rfl, hb2, e0, e1⟩ := HD.out k r hr
      have d0 := (hbr.cell (p := ⟨b, off + k * 2, none⟩) hb).trans c0
      have d1 := (hbr.cell (p := ⟨b, off + k * 2 + 1, none⟩) hb).trans c1
      have x0 := (hbr.cell (p := ⟨b2, off2 + k * 2, none⟩) hb2).trans e0
      have x1 := (hbr.cell (p := ⟨b2, off2 + k * 2 + 1, none⟩) hb2).trans e1
      have hltz : (k : Int) < (l.length : Int) := by omega
      clear c0 c1 e0 e1 hr
      go_wp2_with fail
      go_quiet (fail)
      go_wp2_with fail
      go_roundg g'
      case measure => omega
      case rel => exact ⟨k + 1, by omega, by go_num, below_drewN hbr _⟩
    · go_wp2_with fail
      go_ret
      exact ⟨rfl, hbr⟩
set_option maxRecDepth 100000 in
set_option maxHeartbeats 8000000 in
theorem setOf_any (v : Value) (l : List Int) (w : World) (hv : IRow w v l) (hl : l.length ≤ 1000000) (hn : ∀ n ∈ l, 1 ≤ n ∧ n ≤ 9223372036854775807) (hrise : l.Pairwise (· < ·)) :
    Calls Tryz.prog 15 #[v] w fun e w' => ∃ r, e = .returned r ∧ w'.ownsRow w.heap.size 47 2 r (ofS l).length (rgCells (ofS l)) ∧ Below w.heap.size w w' := by
  obtain ⟨ao, cap, rfl, hcap, hcm, hcell⟩ := hv
  have HC := Lib.hid hcell
  have HN := Lib.hid hn
  have HR := Lib.hid hrise
  clear hcell hn hcap hcm hrise
  go_enter Tryz.func15, Tryz.ntmps15
  go_wp2_with fail
  go_loopg [3, 4, 5, 8] l.length (fun g s3 s4 s5 s8 wr => ∃ (k : Nat) (out : List Rg) (ov : Value), k + g = l.length ∧ s8 = .int .i64 (k : Int) ∧ ov = s3 ∧ wr.ownsRow w.heap.size 47 2 ov out.length (rgCells out) ∧ Below w.heap.size w wr ∧ out.length ≤ k ∧ Hid (out = (l.take k).foldl stepO []) ∧ Hid (∀ j x, k = j + 1 → l[j]? = some x → ∃ (a : List Rg) (p1 : Int), out = a ++ [(p1, x)]))
  case atStart => exact ⟨0, [], _, by omega, rfl, rfl, World.ownsRow_nil _ _ _ _, Below.refl _ _, Nat.zero_le _, Lib.hid rfl, Lib.hid (fun j x h => by omega)⟩
  case round =>
    obtain ⟨k, out, ov, hk, rfl, rfl, hown, hbr, hok, HF, HLst⟩ := hrel
    by_cases hlt : k < l.length
    · obtain ⟨g', rfl⟩ : ∃ g', gk = g' + 1 := ⟨gk - 1, by omega⟩
      obtain ⟨n, hn⟩ : ∃ n, l[k]? = some n := ⟨l[k], List.getElem?_eq_getElem hlt⟩
      have hst : (l.take (k + 1)).foldl stepO [] = stepO out n := by rw [List.take_add_one, hn, List.foldl_append, ← HF.out]; rfl
      obtain ⟨hn1, hn2⟩ := HN.out n (List.mem_of_getElem? hn)
      obtain ⟨b, off, rfl, hb, c0⟩ := HC.out k n hn
      have d0 := (hbr.cell (p := ⟨b, off + k, none⟩) hb).trans c0
      have hltz : (k : Int) < (l.length : Int) := by omega
      have HNK := Lib.hid hn
      have HLast : Hid (∀ (a : List Rg) (p1 : Int), Hid (∀ j x, k + 1 = j + 1 → l[j]? = some x → ∃ (a' : List Rg) (p1' : Int), a ++ [(p1, n)] = a' ++ [(p1', x)])) := Lib.hid (fun a p1 => Lib.hid (fun j x h1 h2 => by
        obtain rfl : j = k := by omega
        rw [HNK.out] at h2
        cases h2
        exact ⟨a, p1, rfl⟩))
      clear hn c0
      rcases Nat.eq_zero_or_pos k with rfl | hpos
      · have h0 : out = [] := List.eq_nil_of_length_eq_zero (by omega)
        subst h0
        rw [step_none] at hst
        have HS := Lib.hid hst
        have HO := Lib.hid hown
        obtain ⟨oa, oc, rfl⟩ := owns_val hown
        have hl0 : ([] : List Rg).length = 0 := rfl
        rw [Nat.add_zero] at d0
        clear hst hown hok
        go_wp2_with (at_builtin; go_must (refine wpList_app2 rfl _ _ 22 rfl 47 Tryz.underlying22 rng_info rfl w.heap.size _ _ _ _ rfl HO.out (.int .i64 n) (.int .i64 n) rfl rfl rfl ?c1 (by decide) ?c2 ?_))
        case c1 => simp
        case c2 => exact hbr.size
        intro v' w2 o2 g2 hv2
        have y2 := below_app2 hbr hbr.size HO.out g2
        go_wp2_with fail
        go_roundg g'
        case measure => omega
        case rel => exact ⟨1, [(n, n)], _, by omega, by go_num, rfl, o2, y2, by simp, Lib.hid HS.out.symm, HLast.out [] n⟩
      · obtain ⟨m, hm⟩ : ∃ m, k = m + 1 := ⟨k - 1, by omega⟩
        obtain ⟨p2, hp2⟩ : ∃ x, l[m]? = some x := ⟨l[m], List.getElem?_eq_getElem (by omega)⟩
        obtain ⟨a, p1, hap⟩ := HLst.out m p2 hm hp2
        subst hap
        have hlt2 : p2 < n := by
          have h1 := (List.getElem?_eq_some_iff.1 hp2)
          have h2 := (List.getElem?_eq_some_iff.1 HNK.out)
          obtain ⟨u1, rfl⟩ := h1
          obtain ⟨u2, rfl⟩ := h2
          exact List.pairwise_iff_getElem.1 HR.out m k u1 u2 (by omega)
        obtain ⟨b', off', e9, hb', c9⟩ := HC.out m p2 hp2
        cases e9
        have d9 := (hbr.cell (p := ⟨b, off + m, none⟩) hb).trans c9
        have hlen : (a ++ [(p1, p2)]).length = a.length + 1 := by simp
        rw [hlen] at hown hok
        obtain ⟨g, oc, hh⟩ := ownsRow_succ hown
        subst hh
        have hgl := (hown.lt g rfl)
        obtain ⟨fz, hoc⟩ : wr.frozen? ⟨g, a.length * 2 + 1, none⟩ = false ∧ a.length + 1 ≤ oc := by
          rcases hown.2 with ⟨h0, _⟩ | ⟨g', cap', cur, h1, h2, h3, h4, h5, h6, h7⟩
          · cases h0
          · cases h1
            exact ⟨Lib.frozen_of_heap h3 _, h4⟩
        have q2' : ∃ u, wr.cell? ⟨g, a.length * 2 + 1, none⟩ = some u := by
          obtain ⟨k1, k2⟩ := rgCells_at (a ++ [(p1, p2)]) a.length (p1, p2) (by simp)
          have q2 := hown.cellAt (a.length * 2 + 1) (by omega)
          rw [k2] at q2
          exact ⟨_, q2⟩
        obtain ⟨qu, q2'⟩ := q2'
        have HO := Lib.hid hown
        have HOK := Lib.hid hok
        have hwp : wrap64 (p2 + 1) = p2 + 1 := IntWalk.wrap64_in _ (by have := (HN.out p2 (List.mem_of_getElem? hp2)).1; omega)
        have hk1 : (k : Int) - 1 = (m : Int) := by omega
        have hk0 : (0 : Int) < (k : Int) := by omega
        have hml : (m : Int) < (l.length : Int) := by omega
        clear hown c9 hp2 hm hpos
        by_cases hp : p2 = n - 1
        · rw [step_yes a (p1, p2) n hp] at hst
          have HS := Lib.hid hst
          have hpb : (p2 + 1 == n) = true := by rw [beq_iff_eq]; omega
          have HO2 := Lib.hid (own_set (i := a.length * 2 + 1) HO.out (.int .i64 n))
          rw [rgCells_set] at HO2
          have y2 := hbr.setCell (p := ⟨g, a.length * 2 + 1, none⟩) hgl.1 (.int .i64 n)
          have HY := Lib.hid y2
          clear hst y2 hp
          go_wp2_with fail
          go_roundg g'
          case measure => omega
          case rel => exact ⟨k + 1, a ++ [(p1, n)], _, by omega, by go_num, rfl, by rw [show (a ++ [(p1, n)]).length = a.length + 1 by simp]; exact HO2.out, HY.out, by have := HOK.out; simp; omega, Lib.hid HS.out.symm, HLast.out a p1⟩
        · rw [step_no a (p1, p2) n hp] at hst
          have HS := Lib.hid hst
          have hpb : (p2 + 1 == n) = false := by rw [beq_eq_false_iff_ne]; omega
          clear hst hp hoc hok
          go_wp2_with (at_builtin; go_must (refine wpList_app2 rfl _ _ 22 rfl 47 Tryz.underlying22 rng_info rfl w.heap.size _ _ _ _ rfl HO.out (.int .i64 n) (.int .i64 n) rfl rfl rfl ?c1 (by decide) ?c2 ?_))
          case c1 => have := HOK.out; omega
          case c2 => exact hbr.size
          intro v' w2 o2 g2 hv2
          have y2 := below_app2 hbr hbr.size HO.out g2
          have o3 : w2.ownsRow w.heap.size 47 2 v' (a ++ [(p1, p2)] ++ [(n, n)]).length (rgCells (a ++ [(p1, p2)] ++ [(n, n)])) := by
            rw [← rgCells_snoc, show (a ++ [(p1, p2)] ++ [(n, n)]).length = a.length + 1 + 1 by simp]; exact o2
          have HO3 := Lib.hid o3
          clear o2 o3 g2 hgl fz q2' hpb hlen
          go_wp2_with fail
          go_roundg g'
          case measure => omega
          case rel => exact ⟨k + 1, a ++ [(p1, p2)] ++ [(n, n)], _, by omega, by go_num, rfl, HO3.out, y2, by have := HOK.out; simp; omega, Lib.hid HS.out.symm, HLast.out _ n⟩
    · have HF2 : Hid (out = ofS l) := Lib.hid (by have := HF.out; rwa [List.take_of_length_le (by omega)] at this)
      go_wp2_with fail
      go_ret
      exact ⟨_, rfl, by rw [← HF2.out]; exact hown, hbr⟩
end Go.Proofs.YtclelkoefeiloaaGreatDoor
