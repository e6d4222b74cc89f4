/- The walk over utf7.Decode. Conditions: utf8's two tables and bytealg.MaxLen lie as the program's text lays them. -/
import Derived.Test.YtkaagodacjgoaaaDoorRows
import Derived.Test.YtkaagodacjgoaaaDoorUtfC
import Derived.Laws.Cover4
import Derived.WalkSmall
namespace Go.Proofs.YtkaagodacjgoaaaDoor
open Go.RowKit Go.Shelf

/-- the package-level variables of Go's library that lie as their text lays them -/
def Globs (w : World) : Prop := Tabs w ∧ ∃ m, w.cell? ⟨2, 0, none⟩ = some (.int .i64 m)
theorem cell_lt {w : World} {b o : Nat} {v : Value} (h : w.cell? ⟨b, o, none⟩ = some v) : b < w.heap.size := by
  rcases Nat.lt_or_ge b w.heap.size with h' | h'
  · exact h'
  · simp [World.cell?, Array.getElem?_eq_none h'] at h
theorem Globs.below {w w' : World} (h : Globs w) (hb : Below w.heap.size w w') : Globs w' := by
  obtain ⟨h1, m, h2⟩ := h
  exact ⟨h1.below hb, m, (hb.cell (p := ⟨_, 0, none⟩) (cell_lt h2)).trans h2⟩

theorem mk_size (l : List UInt8) : (⟨l.toArray⟩ : ByteArray).size = l.length := by simp [ByteArray.size]
theorem below_dr (w : World) : ∀ n, Below w.heap.size w (w.drewN n)
  | 0 => Below.refl _ _
  | n + 1 => (below_dr w n).drew

theorem cut_any (r : ByteArray) (c : UInt8) (w : World) (hG : Globs w) (hs : r.size ≤ 1000000) :
    Calls Tryd.prog 19 #[.string r, .string ⟨#[c]⟩] w fun e w' => e = .returned (.tuple #[.string ⟨(cut1 c r.data.toList).1.toArray⟩, .string ⟨(cut1 c r.data.toList).2.1.toArray⟩, .bool (cut1 c r.data.toList).2.2]) ∧ Below w.heap.size w w' := by
  obtain ⟨_, m, hm⟩ := hG
  refine (Tryd.strings_Cut r ⟨#[c]⟩ m w (by omega) hm).mono ?_
  rintro e w' ⟨rfl, n, rfl⟩
  have e1 : (⟨#[c]⟩ : ByteArray).data.toList = [c] := rfl
  rw [e1, cut_one]
  exact ⟨rfl, below_dr w n⟩

theorem encode_rune (r : Nat) : Utf8.encode (r : Int) = ⟨(Lib.encodeRune (r : Int)).toArray⟩ := by
  have hb : ∀ n : Nat, n < 256 → (n : Int).toNat.toUInt8 = UInt8.ofNat n := fun n _ => by simp
  unfold Utf8.encode Lib.encodeRune
  by_cases h1 : r < 128
  · have hv : Utf8.valid (r : Int) = true := by unfold Utf8.valid; simp; omega
    rw [Lib.encodeRuneZ_one (by omega) (by omega)]
    simp only [hv, if_true, Int.toNat_natCast]
    rw [if_pos (by omega)]
    simp
  · by_cases h2 : r < 2048
    · have hv : Utf8.valid (r : Int) = true := by unfold Utf8.valid; simp; omega
      rw [Lib.encodeRuneZ_two (by omega) (by omega)]
      simp only [hv, if_true, Int.toNat_natCast]
      rw [if_neg (by omega), if_pos (by omega)]
      simp only [List.map_cons, List.map_nil]
      congr 4 <;> omega
    · by_cases h3 : r < 55296 ∨ (57343 < r ∧ r ≤ 65535)
      · have hv : Utf8.valid (r : Int) = true := by unfold Utf8.valid; simp; omega
        rw [Lib.encodeRuneZ_three (by omega)]
        simp only [hv, if_true, Int.toNat_natCast]
        rw [if_neg (by omega), if_neg (by omega), if_pos (by omega)]
        simp only [List.map_cons, List.map_nil]
        congr 5 <;> omega
      · by_cases h4 : 65536 ≤ r ∧ r ≤ 1114111
        · have hv : Utf8.valid (r : Int) = true := by unfold Utf8.valid; simp; omega
          rw [Lib.encodeRuneZ_four (by omega) (by omega)]
          simp only [hv, if_true, Int.toNat_natCast]
          rw [if_neg (by omega), if_neg (by omega), if_neg (by omega)]
          simp only [List.map_cons, List.map_nil]
          congr 6 <;> omega
        · have hv : Utf8.valid (r : Int) = false := by unfold Utf8.valid; simp; omega
          rw [Lib.encodeRuneZ_bad (by omega)]
          simp only [hv, Bool.false_eq_true, if_false]
          rfl
theorem runesBytes_from : ∀ (l : List Nat) (b : ByteArray), (l.map fun (r : Nat) => (r : Int)).foldl (fun r n => r ++ Utf8.encode n) b = b ++ ⟨(textOf l).toArray⟩
  | [], b => by
    apply ByteArray.ext
    simp [textOf]
  | r :: l, b => by
    rw [List.map_cons, List.foldl_cons, runesBytes_from l, encode_rune]
    apply ByteArray.ext
    simp [textOf]
theorem runesBytes_text (l : List Nat) : runesBytes (l.map fun (r : Nat) => (r : Int)) = ⟨(textOf l).toArray⟩ := by
  unfold runesBytes
  rw [runesBytes_from]
  apply ByteArray.ext
  simp
theorem run_runes_text {P : Program} {w : World} {v : Value} {l : List Nat} (h : RowAt w v (runeVals l)) (src dst e : TypeId) (hs : P.underlying src = some (.slice e)) (he : P.underlying e = some (.int .i32)) (hd : P.underlying dst = some .string) :
    (convert src dst v).run P w = .ok (.string ⟨(textOf l).toArray⟩) w := by
  rcases h with ⟨rfl, h0⟩ | ⟨b, off, cap, rfl, _, hc⟩
  · have : l = [] := by
      cases l with
      | nil => rfl
      | cons x r => simp [runeVals] at h0
    subst this
    exact run_convert_runes_nil w src dst e 0 0 hs he hd
  · have e1 : (runeVals l).length = l.length := by simp [runeVals]
    rw [e1]
    have := run_convert_runes w src dst e ⟨b, off, none⟩ l.length cap (l.map fun (r : Nat) => (r : Int)) (by simp) hs he hd ?_
    · rw [List.take_of_length_le (by simp), runesBytes_text] at this
      exact this
    · intro j hj
      have hj' : j < l.length := by simpa using hj
      have := hc j (.int .i32 ((l[j] : Nat) : Int)) (by simp [runeVals, List.getElem?_eq_getElem hj'])
      have hplain : (⟨b, off, none⟩ : Addr).add j = ⟨b, off + j, none⟩ := by unfold Addr.add; split <;> simp_all
      rw [hplain, this]
      simp [List.getD, List.getElem?_eq_getElem hj']

theorem cut1_parts (c : UInt8) : ∀ l : List UInt8, (cut1 c l).2.2 = true → l.length = (cut1 c l).1.length + 1 + (cut1 c l).2.1.length
  | [], h => by simp [cut1] at h
  | b :: l, h => by
    unfold cut1 at h ⊢
    split at h
    · rename_i hb; simp [hb]; omega
    · rename_i hb
      have := cut1_parts c l h
      simp [hb]; omega
theorem cut1_all (c : UInt8) : ∀ l : List UInt8, (cut1 c l).2.2 = false → (cut1 c l).1 = l
  | [], h => by simp [cut1]
  | b :: l, h => by
    unfold cut1 at h ⊢
    split at h
    · simp at h
    · rename_i hb
      have := cut1_all c l h
      simp [hb, this]
theorem pairU_len : ∀ (us l : List Nat), pairU us = some l → l.length ≤ us.length
  | [], l, h => by simp [pairU] at h; simp [h]
  | [u], l, h => by
    simp only [pairU] at h
    split at h
    · cases h
    · cases h; simp
  | u :: v :: us, l, h => by
    simp only [pairU] at h
    split at h
    · split at h
      · cases h
      · cases hp : pairU us with
        | none => rw [hp] at h; cases h
        | some q =>
          rw [hp] at h; cases h
          have := pairU_len us q hp
          simp; omega
    · cases hp : pairU (v :: us) with
      | none => rw [hp] at h; cases h
      | some q =>
        rw [hp] at h; cases h
        have := pairU_len (v :: us) q hp
        simp at this ⊢; omega
theorem valsOf_len : ∀ (l : List UInt8) (ks : List Nat), valsOf l = some ks → ks.length = l.length
  | [], ks, h => by simp [valsOf] at h; simp [h]
  | c :: l, ks, h => by
    simp only [valsOf] at h
    split at h
    · cases h
    · cases hv : valsOf l with
      | none => rw [hv] at h; cases h
      | some q =>
        rw [hv] at h; cases h
        simp [valsOf_len l q hv]
theorem runesOf_len (code : List UInt8) (l : List Nat) (h : runesOf code = some l) : l.length ≤ code.length := by
  unfold runesOf at h
  cases hv : valsOf code with
  | none => rw [hv] at h; cases h
  | some ks =>
    rw [hv] at h
    have h1 := pairU_len _ _ h
    obtain ⟨_, r, _, h2⟩ := unFold_spec ks (valsOf_lt _ ks hv)
    have h3 := congrArg List.length h2
    simp only [List.length_append, allBits_length] at h3
    have := valsOf_len _ _ hv
    omega
theorem textOf_len : ∀ l : List Nat, (textOf l).length ≤ 4 * l.length
  | [] => by simp [textOf]
  | r :: l => by
    have := textOf_len l
    have h1 := Lib.runeCells_le (r : Int)
    rw [Lib.runeCells_length] at h1
    unfold textOf at this ⊢
    rw [List.flatMap_cons, List.length_append, List.length_cons]
    omega

def decV : Option (List UInt8) → Value
  | some o => .tuple #[.string ⟨o.toArray⟩, .nilIface]
  | none => .tuple #[.string ⟨#[]⟩, errV 3]

theorem decL_of {s out : List UInt8} {Pv : Option (List UInt8)} (hP : parseF (s.length + 1) s [] = Pv) (h : some out = Pv) : decL s = if rightL out = true ∧ encL out = s then some out else none := by
  unfold decL; rw [hP, ← h]
theorem decL_none {s : List UInt8} {Pv : Option (List UInt8)} (hP : parseF (s.length + 1) s [] = Pv) (h : none = Pv) : decL s = none := by
  unfold decL; rw [hP, ← h]

set_option maxRecDepth 100000 in
set_option maxHeartbeats 4000000 in
theorem decode_any (s : ByteArray) (w : World) (hs : s.size ≤ 100000) (hG : Globs w) :
    Calls Tryd.prog 7 #[.string s] w fun e w' => e = .returned (decV (decL s.data.toList)) ∧ Below w.heap.size w w' := by
  have hlen : s.data.toList.length = s.size := (Lib.size_eq s).symm
  obtain ⟨Pv, hPv⟩ : ∃ Pv, parseF (s.data.toList.length + 1) s.data.toList [] = Pv := ⟨_, rfl⟩
  have HPv := Lib.hid hPv
  clear hPv
  go_enter Tryd.func7, Tryd.ntmps7
  go_wp2_with fail
  go_loopg [5] (s.size + 1) (fun g s5 wr => ∃ (r : ByteArray) (out : List UInt8), s5 = .string r ∧ Lib.IsBuilderF 36 5 w.heap.size w.heap.size (Lib.byteCells out) wr ∧ Below w.heap.size w wr ∧ r.size + 1 ≤ g ∧ out.length + 4 * r.size ≤ 4 * s.size ∧ Hid (parseF g r.data.toList out = Pv))
  case atStart =>
    exact ⟨s, [], rfl, Lib.IsBuilderF.of (Lib.fresh_isBuilder 36 5 w), (Below.refl _ _).alloc (Nat.le_refl _) _, by omega, by simp, by rw [← hlen]; exact HPv.out⟩
  case round =>
    obtain ⟨r, out, rfl, hI, hb, hrg, hol, Hp⟩ := hrel
    obtain ⟨g', rfl⟩ : ∃ g', gk = g' + 1 := ⟨gk - 1, by omega⟩
    have hGr := hG.below hb
    by_cases h0 : r.data.toList = []
    · have hp := Hp.out
      simp only [parseF, if_pos h0] at hp
      have HP := Lib.hid hp
      have he : r.toList = [] := by rw [Lib.toList_data]; exact h0
      clear hp Hp h0
      have hIt := hI
      have hol2 : out.length ≤ 400000 := by omega
      go_wp2_with fail
      refine (Tryd.Builder_String_any_k w.heap.size w.heap.size out wr hIt hb.size).mono ?_
      rintro e X2 ⟨rfl, hI4, hb4, hk4⟩
      have hbt := hb.trans hb4
      have hT2 := (hG.below hbt).1
      by_cases hR : rightL out = true
      · have cE := encode_yes ⟨(out).toArray⟩ X2 hT2 (by simpa using hR)
        have HR := Lib.hid hR
        clear hR
        go_wp2_with (go_at_call 6; refine cE.mono ?_; rintro e X3 ⟨rfl, hb5⟩)
        · have hq : (!encL (out) == s.toList) = true := by first | assumption | (simpa using (by assumption : (!encL _ == s.toList) = true))
          rw [Lib.toList_data] at hq
          go_ret2
          refine ⟨?_, hbt.trans (hb5.mono hbt.size)⟩
          rw [decL_of HPv.out HP.out, if_neg (by intro h; rw [h.2] at hq; simp at hq)]
          rfl
        · have hq : (!encL (out) == s.toList) = false := by first | assumption | (simpa using (by assumption : (!encL _ == s.toList) = false))
          rw [Lib.toList_data] at hq
          go_ret2
          refine ⟨?_, hbt.trans (hb5.mono hbt.size)⟩
          rw [decL_of HPv.out HP.out, if_pos ⟨HR.out, by simpa using hq⟩]
          rfl
      · have hRf : rightL (out) = false := by simpa using hR
        have cE := encode_no ⟨(out).toArray⟩ X2 (by rw [mk_size]; omega) hT2 (by simpa using hRf)
        have HR := Lib.hid hR
        clear hR hRf
        go_wp2_with (go_at_call 6; refine cE.mono ?_; rintro e X3 ⟨rfl, hb5⟩)
        go_ret2
        refine ⟨?_, hbt.trans (hb5.mono hbt.size)⟩
        rw [decL_of HPv.out HP.out, if_neg (fun h => HR.out h.1)]
        rfl
    · have he : r.toList.isEmpty = false := by rw [Lib.toList_data]; simpa using h0
      have cC := fun W (hW : Globs W) => cut_any r 38 W hW (by omega)
      have hp := Hp.out
      simp only [parseF, if_neg h0] at hp
      have hlr : r.data.toList.length = r.size := (Lib.size_eq r).symm
      have hcp := cut1_parts 38 r.data.toList
      have hca := cut1_all 38 r.data.toList
      generalize (cut1 38 r.data.toList).1 = H at cC hp hcp hca
      generalize (cut1 38 r.data.toList).2.1 = T at cC hp hcp hca
      generalize (cut1 38 r.data.toList).2.2 = O at cC hp hcp hca
      cases O with
      | false =>
        have hHl : H.length = r.size := by rw [hca rfl]; exact hlr
        simp only [if_true] at hp
        have HP := Lib.hid hp
        have HHl := Lib.hid hHl
        clear hp Hp h0 hcp hca hlr hHl
        go_wp2_with (first | (go_at_call 19; refine (cC _ hGr).mono ?_; rintro e X1 ⟨rfl, hb1⟩))
        have hI1 : Lib.IsBuilderF 36 5 w.heap.size w.heap.size (Lib.byteCells out) X1 := bld_same hI (fun k o hk _ => below_same hb1 hk)
        have hb1' := hb.trans (hb1.mono hb.size)
        refine (bld_WriteString w.heap.size w.heap.size _ ⟨H.toArray⟩ X1 hI1 (by rw [Lib.byteCells_length]; rw [mk_size]; have := HHl.out; omega) hb1'.size).mono ?_
        rintro e Y1 ⟨rfl, hI2, hb2, hk2⟩
        have hb2' := hb1'.trans hb2
        obtain ⟨oh, hoh⟩ : ∃ oh, out ++ H = oh := ⟨_, rfl⟩
        have hIt : Lib.IsBuilderF 36 5 w.heap.size w.heap.size (Lib.byteCells oh) Y1 := by
          rw [← hoh, Lib.byteCells_append]; exact Or.inr hI2
        have hol2 : oh.length ≤ 400000 := by rw [← hoh]; simp only [List.length_append]; have := HHl.out; omega
        have HP2 : Hid (some oh = Pv) := by rw [← hoh]; exact HP.out
        clear hoh
        go_wp2_with fail
        refine (Tryd.Builder_String_any_k w.heap.size w.heap.size (oh) Y1 hIt hb2'.size).mono ?_
        rintro e X2 ⟨rfl, hI4, hb4, hk4⟩
        have hbt := hb2'.trans hb4
        have hT2 := (hG.below hbt).1
        by_cases hR : rightL (oh) = true
        · have cE := encode_yes ⟨(oh).toArray⟩ X2 hT2 (by simpa using hR)
          have HR := Lib.hid hR
          clear hR
          go_wp2_with (go_at_call 6; refine cE.mono ?_; rintro e X3 ⟨rfl, hb5⟩)
          · have hq : (!encL (oh) == s.toList) = true := by first | assumption | (simpa using (by assumption : (!encL _ == s.toList) = true))
            rw [Lib.toList_data] at hq
            go_ret2
            refine ⟨?_, hbt.trans (hb5.mono hbt.size)⟩
            rw [decL_of HPv.out HP2.out, if_neg (by intro h; rw [h.2] at hq; simp at hq)]
            rfl
          · have hq : (!encL (oh) == s.toList) = false := by first | assumption | (simpa using (by assumption : (!encL _ == s.toList) = false))
            rw [Lib.toList_data] at hq
            go_ret2
            refine ⟨?_, hbt.trans (hb5.mono hbt.size)⟩
            rw [decL_of HPv.out HP2.out, if_pos ⟨HR.out, by simpa using hq⟩]
            rfl
        · have hRf : rightL (oh) = false := by simpa using hR
          have cE := encode_no ⟨(oh).toArray⟩ X2 (by rw [mk_size]; omega) hT2 (by simpa using hRf)
          have HR := Lib.hid hR
          clear hR hRf
          go_wp2_with (go_at_call 6; refine cE.mono ?_; rintro e X3 ⟨rfl, hb5⟩)
          go_ret2
          refine ⟨?_, hbt.trans (hb5.mono hbt.size)⟩
          rw [decL_of HPv.out HP2.out, if_neg (fun h => HR.out h.1)]
          rfl
      | true =>
        have hHl := hcp rfl
        simp only [Bool.true_eq_false, if_false] at hp
        have hTl : T.length ≤ 100000 := by omega
        have cC2 := fun W (hW : Globs W) => cut_any ⟨T.toArray⟩ 45 W hW (by rw [mk_size]; omega)
        simp only [List.toList_toArray] at cC2
        have hcp2 := cut1_parts 45 T
        have hca2 := cut1_all 45 T
        generalize (cut1 45 T).1 = C at cC2 hp hcp2 hca2
        generalize (cut1 45 T).2.1 = L at cC2 hp hcp2 hca2
        generalize (cut1 45 T).2.2 = O2 at cC2 hp hcp2 hca2
        have hCl : C.length ≤ T.length := by
          cases O2 with
          | true => have := hcp2 rfl; omega
          | false => rw [hca2 rfl]; exact Nat.le_refl _
        have cR := fun W => runes_any ⟨C.toArray⟩ W (by rw [mk_size]; omega)
        simp only [List.toList_toArray] at cR
        have hrl := runesOf_len C
        obtain ⟨RO, hRO⟩ : ∃ RO, runesOf C = RO := ⟨_, rfl⟩
        rw [hRO] at cR hp hrl
        clear hRO
        have hHn : H.length ≤ 100000 := by omega
        have hlr2 := hlr
        have HHl := Lib.hid hHl
        have HC2 := Lib.hid hcp2
        have HP := Lib.hid hp
        clear hp Hp h0 hcp hca hlr hHl hcp2 hca2
        go_wp2_with (first | (go_at_call 19; refine (cC _ hGr).mono ?_; rintro e X1 ⟨rfl, hb1⟩))
        have hI1 : Lib.IsBuilderF 36 5 w.heap.size w.heap.size (Lib.byteCells out) X1 := bld_same hI (fun k o hk _ => below_same hb1 hk)
        have hb1' := hb.trans (hb1.mono hb.size)
        refine (bld_WriteString w.heap.size w.heap.size _ ⟨H.toArray⟩ X1 hI1 (by rw [Lib.byteCells_length]; rw [mk_size]; omega) hb1'.size).mono ?_
        rintro e Y1 ⟨rfl, hI2, hb2, hk2⟩
        have hb2' := hb1'.trans hb2
        obtain ⟨oh, hoh⟩ : ∃ oh, out ++ H = oh := ⟨_, rfl⟩
        have hI3 : Lib.IsBuilderF 36 5 w.heap.size w.heap.size (Lib.byteCells oh) Y1 := by
          rw [← hoh, Lib.byteCells_append]; exact Or.inr hI2
        have hohl : oh.length = out.length + H.length := by rw [← hoh, List.length_append]
        rw [hoh] at HP
        have Hohl := Lib.hid hohl
        clear hohl hoh
        go_wp2_with fail
        refine (cC2 Y1 (hG.below hb2')).mono ?_
        rintro e Y2 ⟨rfl, hb3⟩
        have hI4 : Lib.IsBuilderF 36 5 w.heap.size w.heap.size (Lib.byteCells oh) Y2 := bld_same hI3 (fun k o hk _ => below_same hb3 hk)
        have hb3' := hb2'.trans (hb3.mono hb2'.size)
        go_wp2_with fail
        refine (cR Y2).mono ?_
        rintro e Y3 ⟨vr, rfl, hrow, hb4⟩
        have hI5 : Lib.IsBuilderF 36 5 w.heap.size w.heap.size (Lib.byteCells oh) Y3 := bld_same hI4 (fun k o hk _ => below_same hb4 hk)
        have hb4' := hb3'.trans (hb4.mono hb3'.size)
        clear hI hI1 hI3 hI4 hb1 hb2 hb3 hb4 hk2 hI2
        by_cases hok : O2 = true ∧ RO.isSome = true
        · obtain ⟨rfl, hsome⟩ := hok
          obtain ⟨l, rfl⟩ : ∃ l, RO = some l := Option.isSome_iff_exists.1 hsome
          have hll : l.length ≤ C.length := hrl l rfl
          have htl := textOf_len l
          simp only [Bool.true_eq_false, if_false] at HP
          have hparts := HC2.out rfl
          clear hsome hrl
          simp only [Option.getD_some] at hrow
          by_cases hC0 : C = []
          · subst hC0
            go_wp2_with fail
            refine (bld_WriteByte w.heap.size w.heap.size _ 38 Y3 hI5 (by rw [Lib.byteCells_length]; have := Hohl.out; omega) hb4'.size).mono ?_
            rintro e Y4 ⟨rfl, hI6, hb6, hk6⟩
            have hb6' := hb4'.trans hb6
            have hrow6 : RowAt Y4 vr (runeVals l) := by
              rcases hrow with h | ⟨b, off, cap, rfl, hlt, hc⟩
              · exact Or.inl h
              · have hnil : l = [] := by
                  have := hll
                  simp at this; exact this
                subst hnil
                have hlt4 : b < Y4.heap.size := Nat.lt_of_lt_of_le hlt hb6.size
                exact Or.inr ⟨b, off, cap, rfl, hlt4, by simp [runeVals]⟩
            have hrt := run_runes_text (P := Tryd.prog) (l := l) hrow6 37 9 21 Tryd.underlying37 Tryd.underlying21 Tryd.underlying9
            go_wp2_with fail
            refine (bld_WriteString w.heap.size w.heap.size _ ⟨(textOf l).toArray⟩ Y4 (Or.inr hI6) (by rw [List.length_append, Lib.byteCells_length]; rw [mk_size, List.length_singleton]; have := Hohl.out; omega) hb6'.size).mono ?_
            rintro e Y5 ⟨rfl, hI7, hb7, hk7⟩
            clear hrt
            go_wp2_with fail
            go_roundg g'
            case measure => omega
            case rel =>
              refine ⟨⟨L.toArray⟩, oh ++ [38] ++ textOf l, rfl, ?_, hb6'.trans hb7, ?_, ?_, ?_⟩
              · rw [Lib.byteCells_append, Lib.byteCells_append]; exact Or.inr hI7
              · rw [mk_size]; have := HHl.out; have := hlr2; omega
              · rw [mk_size, List.length_append, List.length_append, List.length_singleton]; have := Hohl.out; have := HHl.out; have := hlr2; simp only [List.length_nil] at hparts hll; omega
              · have h9 := HP.out
                show parseF g' L _ = Pv
                simpa using h9
          · have hCe : C.isEmpty = false := by simpa using hC0
            have hrt := run_runes_text (P := Tryd.prog) (l := l) hrow 37 9 21 Tryd.underlying37 Tryd.underlying21 Tryd.underlying9
            go_wp2_with fail
            refine (bld_WriteString w.heap.size w.heap.size _ ⟨(textOf l).toArray⟩ Y3 hI5 (by rw [Lib.byteCells_length]; rw [mk_size]; have := Hohl.out; omega) hb4'.size).mono ?_
            rintro e Y5 ⟨rfl, hI7, hb7, hk7⟩
            clear hrt
            go_wp2_with fail
            go_roundg g'
            case measure => omega
            case rel =>
              refine ⟨⟨L.toArray⟩, oh ++ textOf l, rfl, ?_, hb4'.trans hb7, ?_, ?_, ?_⟩
              · rw [Lib.byteCells_append]; exact Or.inr hI7
              · rw [mk_size]; have := HHl.out; have := hlr2; omega
              · rw [mk_size, List.length_append]; have := Hohl.out; have := HHl.out; have := hlr2; omega
              · have h9 := HP.out
                show parseF g' L _ = Pv
                simpa [hC0] using h9
        · have HN : Hid (none = Pv) := by
            have h1 := HP.out
            show none = Pv
            rw [← h1]
            cases O2 with
            | false => simp
            | true =>
              cases RO with
              | none => simp
              | some l => exact absurd ⟨rfl, rfl⟩ hok
          clear HP HC2 hrl hrow
          cases O2 with
          | false =>
            go_wp2_with fail
            go_ret2
            refine ⟨?_, hb4'⟩
            rw [decL_none HPv.out HN.out]
            rfl
          | true =>
            cases RO with
            | none =>
              simp only [Option.isSome_none]
              clear hok
              go_wp2_with fail
              go_ret2
              refine ⟨?_, hb4'⟩
              rw [decL_none HPv.out HN.out]
              rfl
            | some l => exact absurd ⟨rfl, rfl⟩ hok
end Go.Proofs.YtkaagodacjgoaaaDoor
