/- The walk over wire.literal: it returns what its plain function says. Conditions: strconv's table of powers and its two errors lie as the program's text lays them. -/
import Derived.Test.YtbfndlmihijcgaaGreatDoorRows
import Derived.Test.YtbfndlmihijcgaaGreatDoorShelf
import Derived.Test.YtbfndlmihijcgaaGreatDoorKit2
import Derived.Test.YtbfndlmihijcgaaGreatDoorPWire
import Derived.Lib.ConvBytes
import Derived.IntWalk
namespace Go.Proofs.YtbfndlmihijcgaaGreatDoor
open Go.RowKit Go.Shelf Go.Sort

theorem var_below {w w' : World} {n : String} {cs : Array Value} (h : w.var? Tryz.prog n = some cs) (hb : Below w.heap.size w w') : w'.var? Tryz.prog n = some cs := by
  unfold World.var? at h ⊢
  cases hg : Tryz.prog.globalNamed n with
  | none => rw [hg] at h; simp at h
  | some g =>
    rw [hg] at h
    simp only [Option.bind_some, Option.bind_eq_bind] at h ⊢
    cases ho : w.heap[g]? with
    | none => simp [ho] at h
    | some o =>
      rw [below_same hb ho]
      simpa [ho] using h
structure StrG (w : World) : Prop where
  tab : Lib.TabIs Tryz.prog w "internal/strconv.uint64pow10" .u64 Lib.pow10Tab
  syn : ∃ tp p, w.var? Tryz.prog "strconv.ErrSyntax" = some #[.iface tp p]
  ran : ∃ tp p, w.var? Tryz.prog "strconv.ErrRange" = some #[.iface tp p]
theorem StrG.below {w w' : World} (h : StrG w) (hb : Below w.heap.size w w') : StrG w' :=
  ⟨var_below h.tab hb, by obtain ⟨a, b, h⟩ := h.syn; exact ⟨a, b, var_below h hb⟩, by obtain ⟨a, b, h⟩ := h.ran; exact ⟨a, b, var_below h hb⟩⟩

theorem atoi_yes (s : List UInt8) (v : Int) (w : World) (h : Lib.atoiAll s = .ok v) (hs : s.length ≤ 1000000) :
    Calls Tryz.prog 35 #[.string ⟨s.toArray⟩] w fun e w' => e = .returned (.tuple #[.int .i64 v, .nilIface]) ∧ Below w.heap.size w w' := by
  refine (Tryz.strconv_Atoi_ok ⟨s.toArray⟩ (by rw [w_size]; omega) v h w).mono ?_
  rintro e w' ⟨rfl, h⟩
  refine ⟨rfl, ?_⟩
  rcases h with rfl | ⟨t, rfl⟩
  · exact Below.refl _ _
  · exact ⟨rfl, rfl, rfl, by rw [Lib.bytesWorld_size]; omega, fun j hj => Lib.bytesWorld_at_old w _ t j hj⟩
theorem atoi_no (s : List UInt8) (w : World) (h : ∀ v, Lib.atoiAll s ≠ .ok v) (hs : s.length ≤ 1000000) (hG : StrG w) :
    Calls Tryz.prog 35 #[.string ⟨s.toArray⟩] w fun e w' => ∃ n N, e = .returned (.tuple #[.int .i64 n, .iface 112 (.pointer (some ⟨N, 0, none⟩))]) ∧ Below w.heap.size w w' := by
  cases hc : Lib.atoiAll s
  · exact absurd hc (h _)
  · obtain ⟨tp, p, hv⟩ := hG.syn
    refine (Any.strconv_Atoi_syntax_var Tryz.laysC172 ⟨s.toArray⟩ (by rw [w_size]; omega) hc tp p w hv).mono ?_
    rintro e w' ⟨N, rfl, _, _, hb⟩
    exact ⟨_, N, rfl, hb⟩
  · obtain ⟨tp, p, hv⟩ := hG.ran
    refine (Tryz.strconv_Atoi_range_var ⟨s.toArray⟩ (by rw [w_size]; omega) hc tp p w hv).mono ?_
    rintro e w' ⟨N, rfl, _, _, hb⟩
    exact ⟨_, N, rfl, hb⟩
theorem itoa_any (v : Int) (w : World) (h0 : 0 ≤ v) (h1 : v ≤ 4611686018427387904) (hG : StrG w) :
    Calls Tryz.prog 36 #[.int .i64 v] w fun e w' => e = .returned (.string ⟨(Lib.itoa v).toArray⟩) ∧ Below w.heap.size w w' := by
  refine (Tryz.strconv_Itoa v (by omega) (by omega) w hG.tab).mono ?_
  rintro e w' ⟨rfl, k, os, rfl⟩
  refine ⟨rfl, rfl, rfl, rfl, ?_, ?_⟩
  · simp [grow]
  · intro j hj
    show (w.heap ++ os)[j]? = w.heap[j]?
    exact Array.getElem?_append_left hj

theorem last_byte (l : List UInt8) (h : l.length - 1 < (⟨l.toArray⟩ : ByteArray).size) : (⟨l.toArray⟩ : ByteArray)[l.length - 1]'h = l.getLastD 0 := by
  cases l with
  | nil => exact absurd h (by rw [w_size]; simp)
  | cons c r =>
    show (c :: r)[(c :: r).length - 1] = _
    rw [List.getLastD_eq_getLast?, List.getLast?_eq_getElem?, List.getElem?_eq_getElem (by simp)]
    rfl
theorem byte_eq (c : UInt8) (n : Nat) (hn : n < 256) : ((c.toNat : Int) == (n : Int)) = decide (c = UInt8.ofNat n) := by
  by_cases h : c = UInt8.ofNat n
  · rw [decide_eq_true h, h, beq_iff_eq]
    have : (UInt8.ofNat n).toNat = n := by simp; omega
    rw [this]
  · rw [decide_eq_false h, beq_eq_false_iff_ne]
    intro h2
    have h3 : c.toNat = n := by omega
    exact h (by rw [← h3]; simp)

set_option maxRecDepth 100000 in
set_option maxHeartbeats 4000000 in
/-- the number in a line's end -/
theorem literal_any (l : List UInt8) (w : World) (hl : l.length ≤ 1000000) (hG : StrG w) :
    Calls Tryz.prog 20 #[.string ⟨l.toArray⟩] w fun e w' => e = .returned (.int .i64 ((litF l).getD (-1))) ∧ Below w.heap.size w w' := by
  have y := Below.refl w.heap.size w
  have hts := w_size l
  have cK := Tryz.strings_LastIndexByte ⟨l.toArray⟩ 123 (by rw [hts]; omega) w
  have hpl := lit_place l
  have hlf : litF l = if Lib.lastIndexByte ⟨l.toArray⟩ 123 < 0 then none else if l.getLastD 0 ≠ 125 then none else numF (innerL l (Lib.lastIndexByte ⟨l.toArray⟩ 123).toNat) := rfl
  generalize Lib.lastIndexByte ⟨l.toArray⟩ 123 = K at cK hpl hlf
  generalize litF l = R at hlf
  rcases hpl with rfl | ⟨i, rfl, hi, hi2⟩
  · rw [if_pos (by decide)] at hlf
    subst hlf
    go_enter Tryz.func20, Tryz.ntmps20
    go_wp2_with (go_at_call 34; with_reducible refine cK.mono ?_; rintro e w1 ⟨rfl, hw⟩; rw [hw]; clear hw)
    go_ret
    exact ⟨rfl, y⟩
  · rw [if_neg (by omega), Int.toNat_natCast] at hlf
    have cF := Tryz.strings_HasSuffix ⟨l.toArray⟩ ⟨#[125]⟩ w (by rw [hts]; omega)
    have e1 : Lib.hasSuffix (⟨l.toArray⟩ : ByteArray).data.toList (⟨#[125]⟩ : ByteArray).data.toList = decide (l.getLastD 0 = 125) := suffix_last (by rintro rfl; simp at hi)
    rw [e1] at cF
    by_cases h125 : l.getLastD 0 = 125
    · rw [decide_eq_true h125] at cF
      rw [if_neg (by simpa using h125)] at hlf
      have hi3 := hi2 h125
      have hpt := w_part l (i + 1) (l.length - 1)
      have hin : (l.drop (i + 1)).take (l.length - 1 - (i + 1)) = innerL l i := rfl
      rw [hin] at hpt
      have hil : (innerL l i).length ≤ l.length := by unfold innerL; simp; omega
      generalize innerL l i = S at hpt hil hlf
      have z1 : ((i : Int) + 1).toNat = i + 1 := by omega
      have z2 : ((l.length : Int) - 1).toNat = l.length - 1 := by omega
      have z3 : (0 : Int) ≤ (i : Int) + 1 := by omega
      have z4 : (i : Int) + 1 ≤ (l.length : Int) - 1 := by omega
      have z5 : (l.length : Int) - 1 ≤ (l.length : Int) := by omega
      have htS := w_size S
      clear e1 hin h125 hi2
      by_cases hok : ∃ v, Lib.atoiAll S = .ok v
      · obtain ⟨v, hv⟩ := hok
        have cA := fun W => atoi_yes S v W hv (by omega)
        have hn : R = numOf S v := by rw [hlf]; unfold numF; rw [hv]
        clear hlf hv
        by_cases hv0 : v < 0
        · have : R = none := by rw [hn]; unfold numOf; rw [if_neg (by omega)]
          subst this
          clear hn
          go_enter Tryz.func20, Tryz.ntmps20
          go_wp2_with (first
            | (go_at_call 34; with_reducible refine cK.mono ?_; rintro e w1 ⟨rfl, hw⟩; rw [hw]; clear hw)
            | (go_at_call 11; with_reducible refine cF.mono ?_; rintro e w1 ⟨rfl, hw⟩; rw [hw]; clear hw)
            | (go_at_call 35; with_reducible refine (cA _).mono ?_; rintro e wX ⟨rfl, hbX⟩; have y := y.trans (hbX.mono y.size)))
          go_ret
          exact ⟨rfl, y⟩
        · by_cases hv1 : 4611686018427387904 < v
          · have : R = none := by rw [hn]; unfold numOf; rw [if_neg (by omega)]
            subst this
            clear hn
            go_enter Tryz.func20, Tryz.ntmps20
            go_wp2_with (first
              | (go_at_call 34; with_reducible refine cK.mono ?_; rintro e w1 ⟨rfl, hw⟩; rw [hw]; clear hw)
              | (go_at_call 11; with_reducible refine cF.mono ?_; rintro e w1 ⟨rfl, hw⟩; rw [hw]; clear hw)
              | (go_at_call 35; with_reducible refine (cA _).mono ?_; rintro e wX ⟨rfl, hbX⟩; have y := y.trans (hbX.mono y.size)))
            go_ret
            exact ⟨rfl, y⟩
          · have cT := fun W (hW : StrG W) => itoa_any v W (by omega) (by omega) hW
            have hn2 : R = if Lib.itoa v = S then some v else none := by
              rw [hn]; unfold numOf
              by_cases h : Lib.itoa v = S
              · rw [if_pos h, if_pos ⟨by omega, by omega, h⟩]
              · rw [if_neg h, if_neg (fun h2 => h h2.2.2)]
            generalize Lib.itoa v = D at cT hn2
            have hv2 : 0 ≤ v := by omega
            have hv3 : v ≤ 4611686018427387904 := by omega
            clear hn
            by_cases hDS : D = S
            · subst hDS
              have : R = some v := by rw [hn2, if_pos rfl]
              subst this
              clear hn2
              go_enter Tryz.func20, Tryz.ntmps20
              go_wp2_with (first
            | (go_at_call 34; with_reducible refine cK.mono ?_; rintro e w1 ⟨rfl, hw⟩; rw [hw]; clear hw)
            | (go_at_call 11; with_reducible refine cF.mono ?_; rintro e w1 ⟨rfl, hw⟩; rw [hw]; clear hw)
            | (go_at_call 35; with_reducible refine (cA _).mono ?_; rintro e wX ⟨rfl, hbX⟩; have y := y.trans (hbX.mono y.size); have hG := hG.below hbX)
            | (go_at_call 36; with_reducible refine (cT _ hG).mono ?_; rintro e wX ⟨rfl, hbX⟩; have y := y.trans (hbX.mono y.size)))
              go_ret
              exact ⟨rfl, y⟩
            · have : R = none := by rw [hn2, if_neg hDS]
              subst this
              have hDb : (D == S) = false := by simpa using hDS
              clear hn2
              go_enter Tryz.func20, Tryz.ntmps20
              go_wp2_with (first
            | (go_at_call 34; with_reducible refine cK.mono ?_; rintro e w1 ⟨rfl, hw⟩; rw [hw]; clear hw)
            | (go_at_call 11; with_reducible refine cF.mono ?_; rintro e w1 ⟨rfl, hw⟩; rw [hw]; clear hw)
            | (go_at_call 35; with_reducible refine (cA _).mono ?_; rintro e wX ⟨rfl, hbX⟩; have y := y.trans (hbX.mono y.size); have hG := hG.below hbX)
            | (go_at_call 36; with_reducible refine (cT _ hG).mono ?_; rintro e wX ⟨rfl, hbX⟩; have y := y.trans (hbX.mono y.size)))
              go_ret
              exact ⟨rfl, y⟩
      · have hno : ∀ v, Lib.atoiAll S ≠ .ok v := fun v hv => hok ⟨v, hv⟩
        have cA := fun W (hW : StrG W) => atoi_no S W hno (by omega) hW
        have : R = none := by
          rw [hlf]; unfold numF
          split
          · rename_i v hv; exact absurd hv (hno v)
          · rfl
        subst this
        clear hlf hok hno
        go_enter Tryz.func20, Tryz.ntmps20
        go_wp2_with (first
          | (go_at_call 34; with_reducible refine cK.mono ?_; rintro e w1 ⟨rfl, hw⟩; rw [hw]; clear hw)
          | (go_at_call 11; with_reducible refine cF.mono ?_; rintro e w1 ⟨rfl, hw⟩; rw [hw]; clear hw)
          | (go_at_call 35; with_reducible refine (cA _ hG).mono ?_; rintro e wX ⟨nX, NX, rfl, hbX⟩; have y := y.trans (hbX.mono y.size)))
        go_ret
        exact ⟨rfl, y⟩
    · rw [decide_eq_false h125] at cF
      rw [if_pos (by simpa using h125)] at hlf
      subst hlf
      clear e1 h125 hi2
      go_enter Tryz.func20, Tryz.ntmps20
      go_wp2_with (first
        | (go_at_call 34; with_reducible refine cK.mono ?_; rintro e w1 ⟨rfl, hw⟩; rw [hw]; clear hw)
        | (go_at_call 11; with_reducible refine cF.mono ?_; rintro e w1 ⟨rfl, hw⟩; rw [hw]; clear hw))
      go_ret
      exact ⟨rfl, y⟩
end Go.Proofs.YtbfndlmihijcgaaGreatDoor
