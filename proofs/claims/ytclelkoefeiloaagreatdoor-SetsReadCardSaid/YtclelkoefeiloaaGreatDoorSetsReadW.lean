/- The walk over letterboxlaw.SetsRead: it returns true, whatever it is given. Conditions: strconv's table of powers and its two errors, bytealg.MaxLen, and the handle of error, lie as the program's text lays them. -/
import Derived.Test.YtclelkoefeiloaaGreatDoorRSetD
import Derived.Test.YtclelkoefeiloaaGreatDoorSeqD
import Derived.Test.YtclelkoefeiloaaGreatDoorTell
namespace Go.Proofs.YtclelkoefeiloaaGreatDoor
open Go.RowKit Go.Shelf Go.Sort
set_option linter.unusedSimpArgs false

structure SetG (w : World) : Prop where
  str : StrG w
  max : MaxG w
  err : ErrTy w
theorem SetG.below {w w' : World} (h : SetG w) (hb : Below w.heap.size w w') : SetG w' := ⟨h.str.below hb, h.max.below hb, errTy_below h.err hb⟩
theorem rises_of {l : List Int} (h : ∀ (j : Nat) (x : Int), l[j]? = some x → 1 ≤ x ∧ ∀ (i : Nat) (y : Int), j = i + 1 → l[i]? = some y → y < x) : l.Pairwise (· < ·) := by
  rw [List.pairwise_iff_getElem]
  intro i j hi hj hij
  have key : ∀ (d j : Nat) (hj : j < l.length), i < j → j = i + 1 + d → l[i] < l[j] := by
    intro d
    induction d with
    | zero => intro j hj _ e; exact (h j _ (List.getElem?_eq_getElem hj)).2 i _ (by omega) (List.getElem?_eq_getElem hi)
    | succ d ih =>
      intro j hj hij e
      have h1 := ih (j - 1) (by omega) (by omega) (by omega)
      have h2 := (h j _ (List.getElem?_eq_getElem hj)).2 (j - 1) _ (by omega) (List.getElem?_eq_getElem (by omega))
      omega
  exact key (j - i - 1) j hj hij (by omega)
/-- both readings, as one -/
theorem both_parse (S : Txt) (hS : S.length ≤ 100000) : ∃ (LL : List Rg) (errV : Value) (code : Int),
    (∀ W, SetG W → Calls Tryz.prog 4 #[.string ⟨S.toArray⟩] W fun e w' => ∃ a c, e = .returned (.tuple #[.slice a LL.length c, .int .i64 code]) ∧ RgRow w' (.slice a LL.length c) LL ∧ Below W.heap.size W w') ∧
    (∀ W, SetG W → Calls Tryz.prog 5 #[.string ⟨S.toArray⟩] W fun e w' => ∃ a c, e = .returned (.tuple #[.slice a LL.length c, errV]) ∧ RgRow w' (.slice a LL.length c) LL ∧ Below W.heap.size W w') ∧
    (∀ W, SetG W → Calls Tryz.prog 6 #[errV, .int .i64 code] W fun e w' => e = .returned (.bool true) ∧ Below W.heap.size W w') := by
  cases hp : parseS S with
  | error n =>
    refine ⟨[], .iface 24 (.int .i64 (n : Int)), (n : Int), fun W hW => (parseSet_any S W hS hW.str hW.max).mono fun e w' h => ?_, fun W hW => (parse_any S W (by omega) hW.str hW.max).mono fun e w' h => ?_, fun W hW => (bare_err (n : Int) (n : Int) W hW.err).mono fun e w' h => ?_⟩
    · unfold RefP at h
      rw [hp] at h
      exact ⟨none, 0, h.1, RgRow.nil _, h.2⟩
    · unfold ParR at h
      rw [hp] at h
      exact ⟨none, 0, h.1, RgRow.nil _, h.2⟩
    · exact ⟨by rw [h.1]; simp, h.2⟩
  | ok L =>
    refine ⟨L, .nilIface, 0, fun W hW => (parseSet_any S W hS hW.str hW.max).mono fun e w' h => ?_, fun W hW => (parse_any S W (by omega) hW.str hW.max).mono fun e w' h => ?_, fun W hW => (bare_nil 0 W).mono fun e w' h => ?_⟩
    · unfold RefP at h
      rw [hp] at h
      obtain ⟨v, h1, h2, h3⟩ := h
      obtain ⟨a, c, rfl⟩ := owned_val h2
      exact ⟨a, c, h1, rg_of_owns h2, h3⟩
    · unfold ParR at h
      rw [hp] at h
      obtain ⟨v, h1, h2, _, h3⟩ := h
      obtain ⟨a, c, rfl⟩ := owned_val h2
      exact ⟨a, c, h1, rg_of_owns h2, h3⟩
    · exact ⟨by rw [h.1]; simp, h.2⟩
/-- both writings, as one -/
theorem both_print (l : List Rg) : ∃ (T : Txt) (errV : Value) (code : Int),
    (∀ v W, SetG W → RgRow W v l → Calls Tryz.prog 8 #[v] W fun e w' => e = .returned (.tuple #[.string ⟨T.toArray⟩, .int .i64 code]) ∧ Below W.heap.size W w') ∧
    (∀ v W, SetG W → RgRow W v l → Calls Tryz.prog 9 #[v] W fun e w' => e = .returned (.tuple #[.string ⟨T.toArray⟩, errV]) ∧ Below W.heap.size W w') ∧
    (∀ W, SetG W → Calls Tryz.prog 6 #[errV, .int .i64 code] W fun e w' => e = .returned (.bool true) ∧ Below W.heap.size W w') := by
  cases hp : rightS l with
  | false =>
    refine ⟨[], .iface 24 (.int .i64 1), 1, fun v W hW hv => (printSet_any v l W hv hW.str hW.max).mono fun e w' h => ?_, fun v W hW hv => (printS_any v l W hv hW.str).mono fun e w' h => ?_, fun W hW => (bare_err 1 1 W hW.err).mono fun e w' h => ?_⟩
    · unfold RefPr at h; rw [if_neg (by rw [hp]; decide)] at h; exact h
    · unfold PrintR at h; rw [if_neg (by rw [hp]; decide)] at h; exact h
    · exact ⟨by rw [h.1]; simp, h.2⟩
  | true =>
    refine ⟨printS l, .nilIface, 0, fun v W hW hv => (printSet_any v l W hv hW.str hW.max).mono fun e w' h => ?_, fun v W hW hv => (printS_any v l W hv hW.str).mono fun e w' h => ?_, fun W hW => (bare_nil 0 W).mono fun e w' h => ?_⟩
    · unfold RefPr at h; rw [if_pos hp] at h; exact h
    · unfold PrintR at h; rw [if_pos hp] at h; exact h
    · exact ⟨by rw [h.1]; simp, h.2⟩
set_option maxRecDepth 100000 in
set_option maxHeartbeats 16000000 in
theorem setsRead_any (S : Txt) (lv nv : Value) (l : List Rg) (nums : List Int) (n gr : Int) (w : World) (hs : S.length ≤ 9223372036854775807) (hlr : RgRow w lv l) (hnr : IRow w nv nums) (hnb : ∀ x ∈ nums, x ≤ 9223372036854775807) (hG : SetG w) :
    Calls Tryz.prog 3 #[.string ⟨S.toArray⟩, lv, .int .i64 n, .int .i64 gr, nv] w fun e w' => e = .returned (.bool true) ∧ Below w.heap.size w w' := by
  have hts := text_size S
  have y := Below.refl w.heap.size w
  have HL := Lib.hid hlr
  have HNR := Lib.hid hnr
  obtain ⟨la, lc, rfl, -, ⟨hlm, -⟩, -⟩ := hlr
  obtain ⟨na, nc, rfl, -, hnm, hncell⟩ := hnr
  have HNC := Lib.hid hncell
  have HNB := Lib.hid hnb
  clear hnb hncell hlm hnm
  by_cases hB : (400 : Int) < (S.length : Int)
  · go_enter Tryz.func3, Tryz.ntmps3
    go_wp2_with fail
    go_ret
    exact ⟨rfl, y⟩
  by_cases hC : (40 : Int) < (l.length : Int)
  · go_enter Tryz.func3, Tryz.ntmps3
    go_wp2_with fail
    go_ret
    exact ⟨rfl, y⟩
  by_cases hD : (60 : Int) < (nums.length : Int)
  · go_enter Tryz.func3, Tryz.ntmps3
    go_wp2_with fail
    go_ret
    exact ⟨rfl, y⟩
  have hS1 : S.length ≤ 400 := by omega
  have hn1 : nums.length ≤ 60 := by omega
  have HG := Lib.hid (fun W (h : Below w.heap.size w W) => hG.below h)
  obtain ⟨LL, eV, code, cP, cQ, cB⟩ := both_parse S (by omega)
  obtain ⟨TT, eW, code2, cU, cV, cX⟩ := both_print l
  have cPw := cP w hG
  have cR := fun W (h : Below w.heap.size w W) => rightS_any _ l W (HL.out.below h)
  have cRR := fun W (h : Below w.heap.size w W) => rangesR_any _ l W (HL.out.below h)
  have cH := fun W (h : Below w.heap.size w W) => hasS_any _ l n gr W (HL.out.below h)
  have cI := fun W (h : Below w.heap.size w W) => inSet_any _ l n gr W (HL.out.below h)
  generalize rightS l = RS at cR cRR
  generalize hasS l n gr = HS at cH cI
  clear hG cP
  go_enter Tryz.func3, Tryz.ntmps3
  go_upto_region 7 with (first
    | (go_at_call 4; go_loud (((with_reducible refine cPw.mono ?_); rintro e w1 ⟨a1, c1, rfl, r1, y1⟩; have cQ1 := cQ w1 (HG.out _ y1))))
    | (go_at_call 5; go_loud (((with_reducible refine cQ1.mono ?_); rintro e w2 ⟨a2, c2, rfl, r2, h2⟩; have y2 := y1.trans (h2.mono y1.size); have r12 := r1.below h2; have cB1 := cB w2 (HG.out _ y2))))
    | (go_at_call 6; go_loud (((with_reducible refine cB1.mono ?_); rintro e w3 ⟨rfl, h3⟩; have y3 := y2.trans (h3.mono y2.size); have cS1 := sameR_any _ _ LL w3 (r2.below h3) (r12.below h3))))
    | (go_at_call 7; go_loud (((with_reducible refine cS1.mono ?_); rintro e w4 ⟨rfl, h4⟩; have y4 := y3.trans (h4.mono y3.size); have cU1 := cU _ w4 (HG.out _ y4) (HL.out.below y4)))))
  clear cPw cQ cQ1 cB cB1 cS1 cU r1 r2 r12 h2 h3 h4 y1 y2 y3
  go_upto_region 11 with (first
    | (go_at_call 8; go_loud (((with_reducible refine cU1.mono ?_); rintro e w5 ⟨rfl, h5⟩; have y5 := y4.trans (h5.mono y4.size); have cV1 := cV _ w5 (HG.out _ y5) (HL.out.below y5))))
    | (go_at_call 9; go_loud (((with_reducible refine cV1.mono ?_); rintro e w6 ⟨rfl, h6⟩; have y6 := y5.trans (h6.mono y5.size); have cX1 := cX w6 (HG.out _ y6))))
    | (go_at_call 6; go_loud (((with_reducible refine cX1.mono ?_); rintro e w7 ⟨rfl, h7⟩; have y7 := y6.trans (h7.mono y6.size); have cR1 := cR w7 y7)))
    | (go_at_call 10; go_loud (((with_reducible refine cR1.mono ?_); rintro e w8 ⟨rfl, h8⟩; have y8 := y7.trans (h8.mono y7.size); have cRR1 := cRR w8 y8)))
    | (go_at_call 11; go_loud (((with_reducible refine cRR1.mono ?_); rintro e w9 ⟨rfl, h9⟩; have y9 := y8.trans (h9.mono y8.size); have cH1 := cH w9 y9)))
    | (go_at_call 12; go_loud (((with_reducible refine cH1.mono ?_); rintro e w10 ⟨rfl, h10⟩; have y10 := y9.trans (h10.mono y9.size); have cI1 := cI w10 y10)))
    | (go_at_call 13; go_loud (((with_reducible refine cI1.mono ?_); rintro e w11 ⟨rfl, h11⟩; have y11 := y10.trans (h11.mono y10.size)))))
  clear cU1 cV cV1 cX cX1 cR cR1 cRR cRR1 cH cH1 cI cI1 h5 h6 h7 h8 h9 h10 h11 y4 y5 y6 y7 y8 y9 y10
  go_wp2_with fail
  go_loopg [17] nums.length (fun g s17 wr => ∃ k : Nat, k + g = nums.length ∧ s17 = .int .i64 (k : Int) ∧ Below w.heap.size w wr ∧ Hid (∀ (j : Nat) (x : Int), j < k → nums[j]? = some x → 1 ≤ x ∧ ∀ (i : Nat) (y : Int), j = i + 1 → nums[i]? = some y → y < x))
  case atStart => exact ⟨0, by omega, rfl, y11, Lib.hid (fun j x h => by omega)⟩
  case round =>
    clear y11
    obtain ⟨k, hk, rfl, hbr, HF⟩ := hrel
    by_cases hlt : k < nums.length
    · obtain ⟨g', rfl⟩ : ∃ g', gk = g' + 1 := ⟨gk - 1, by omega⟩
      obtain ⟨x, hx⟩ : ∃ x, nums[k]? = some x := ⟨nums[k], List.getElem?_eq_getElem hlt⟩
      obtain ⟨b, off, rfl, hb, c0⟩ := HNC.out k x hx
      have d0 := (hbr.cell (p := ⟨b, off + k, none⟩) hb).trans c0
      have hltz : (k : Int) < (nums.length : Int) := by omega
      by_cases h1 : x < 1
      · clear hx c0
        go_wp2_with fail
        go_quiet (fail)
        go_wp2_with fail
        go_ret
        exact ⟨rfl, below_drewN hbr _⟩
      · have h1d : decide (x < 1) = false := decide_eq_false h1
        rcases Nat.eq_zero_or_pos k with rfl | hpos
        · have HF2 : Hid (∀ (j : Nat) (x : Int), j < 0 + 1 → nums[j]? = some x → 1 ≤ x ∧ ∀ (i : Nat) (y : Int), j = i + 1 → nums[i]? = some y → y < x) := Lib.hid (fun j z hj hz => by
            obtain rfl : j = 0 := by omega
            rw [hx] at hz; cases hz
            exact ⟨by omega, fun i q hi => by omega⟩)
          rw [Nat.add_zero] at d0
          clear hx c0
          go_wp2_with fail
          go_quiet (fail)
          go_wp2_with fail
          go_roundg g'
          case measure => omega
          case rel => exact ⟨1, by omega, by go_num, below_drewN hbr _, HF2⟩
        · obtain ⟨m, hm⟩ : ∃ m, k = m + 1 := ⟨k - 1, by omega⟩
          obtain ⟨p, hp⟩ : ∃ x, nums[m]? = some x := ⟨nums[m], List.getElem?_eq_getElem (by omega)⟩
          obtain ⟨b', off', e9, hb', c9⟩ := HNC.out m p hp
          cases e9
          have d9 := (hbr.cell (p := ⟨b, off + m, none⟩) hb).trans c9
          have hk1 : (k : Int) - 1 = (m : Int) := by omega
          have hk1w : IntKind.i64.wrap ((k : Int) - 1) = (m : Int) := by rw [hk1]; exact IntWalk.i64_in _ (by omega)
          have hk0 : (0 : Int) < (k : Int) := by omega
          have hml : (m : Int) < (nums.length : Int) := by omega
          have hm0 : (0 : Int) ≤ (m : Int) := by omega
          have HF2 : Hid (p < x → ∀ (j : Nat) (x : Int), j < k + 1 → nums[j]? = some x → 1 ≤ x ∧ ∀ (i : Nat) (y : Int), j = i + 1 → nums[i]? = some y → y < x) := Lib.hid (fun hpx j z hj hz => by
            rcases Nat.lt_or_ge j k with h | h
            · exact HF.out j z h hz
            · obtain rfl : j = k := by omega
              rw [hx] at hz; cases hz
              refine ⟨by omega, fun i q hi hq => ?_⟩
              obtain rfl : i = m := by omega
              rw [hp] at hq; cases hq
              exact hpx)
          have hk0d : decide ((0 : Int) < (k : Int)) = true := decide_eq_true hk0
          have hpd1 : decide (0 < k) = true := decide_eq_true hpos
          have hk0n : (0 : Int) ≤ (k : Int) := by omega
          have hmn : ((m : Int)).toNat = m := Int.toNat_natCast m
          clear hx c0 hp c9 hm
          by_cases hpx : x ≤ p
          · go_wp2_with fail
            go_quiet (fail)
            go_wp2_with fail
            go_ret
            exact ⟨rfl, below_drewN hbr _⟩
          · have HF3 := Lib.hid (HF2.out (by omega))
            have hpd : decide (x ≤ p) = false := decide_eq_false hpx
            clear HF2
            go_wp2_with fail
            go_quiet (fail)
            go_wp2_with fail
            go_roundg g'
            case measure => omega
            case rel => exact ⟨k + 1, by omega, by go_num, below_drewN hbr _, HF3⟩
    · obtain rfl : k = nums.length := by omega
      have hall : ∀ (j : Nat) (x : Int), nums[j]? = some x → 1 ≤ x ∧ ∀ (i : Nat) (y : Int), j = i + 1 → nums[i]? = some y → y < x := fun j x hj => HF.out j x (List.getElem?_eq_some_iff.1 hj).1 hj
      have hpw := rises_of hall
      have hone : ∀ n ∈ nums, 1 ≤ n ∧ n ≤ 9223372036854775807 := fun z hz => by
        obtain ⟨j, hj⟩ := List.getElem?_of_mem hz
        exact ⟨(hall j z hj).1, HNB.out z hz⟩
      have cOf := of_any _ nums wr (HNR.out.below hbr) (by omega) hone
      have cSo := fun W (h : Below w.heap.size w W) => setOf_any _ nums W (HNR.out.below h) (by omega) hone hpw
      clear hall hpw hone HF
      go_wp2_with (first
        | (go_at_call 14; go_loud (((with_reducible refine cOf.mono ?_); rintro e w1 ⟨u, rfl, ho, h1⟩; have y1 := hbr.trans (h1.mono hbr.size); have cSo1 := cSo w1 y1)))
        | (go_at_call 15; go_loud (((with_reducible refine cSo1.mono ?_); rintro e w2 ⟨u2, rfl, ho2, h2⟩; have y2 := y1.trans (h2.mono y1.size); have cE := sameR_any u u2 _ w2 ((rg_of_owns ho).below h2) (rg_of_owns ho2))))
        | (go_at_call 7; go_loud (((with_reducible refine cE.mono ?_); rintro e w3 ⟨rfl, h3⟩; have y3 := y2.trans (h3.mono y2.size)))))
      go_ret
      exact ⟨rfl, y3⟩
end Go.Proofs.YtclelkoefeiloaaGreatDoor
