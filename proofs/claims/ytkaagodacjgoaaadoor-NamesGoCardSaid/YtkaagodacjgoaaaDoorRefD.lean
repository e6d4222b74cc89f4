/- The walk over the reference's Decode. Conditions: utf8's two tables lie as their text lays them. -/
import Derived.Test.YtkaagodacjgoaaaDoorRows
import Derived.Test.YtkaagodacjgoaaaDoorShelf
import Derived.Test.YtkaagodacjgoaaaDoorRefC
import Derived.Test.YtkaagodacjgoaaaDoorPRef2
import Derived.Test.YtkaagodacjgoaaaDoorUtfD
namespace Go.Proofs.YtkaagodacjgoaaaDoor
open Go.RowKit Go.Shelf

theorem int_info : (Tryd.prog.info? 3).map (fun i => (i.zero, i.size, i.bytes)) = some (some (.int .i64 0), 1, 8) := by kernel_rfl
def intVals (l : List Nat) : List Value := l.map fun (r : Nat) => .int .i64 (r : Int)
/-- what the reference answers of a reading -/
def decRV (o : Option (List UInt8)) : Value := match o with
  | none => .tuple #[.string ⟨#[]⟩, .int .i64 3]
  | some l => .tuple #[.string ⟨l.toArray⟩, .int .i64 0]

theorem runesOf_vals {code : List UInt8} {ks : List Nat} (h : valsOf code = some ks) : runesOf code = pairU (unFold ks).1 := by unfold runesOf; rw [h]; rfl
theorem runesOf_bad {code : List UInt8} (h : valsOf code = none) : runesOf code = none := by unfold runesOf; rw [h]; rfl

theorem text_snoc (out : List UInt8) (rs : List Nat) (n : Nat) : (⟨(out ++ textOf rs).toArray⟩ : ByteArray) ++ ⟨(Lib.encodeRune (n : Int)).toArray⟩ = ⟨(out ++ textOf (rs ++ [n])).toArray⟩ := by
  rw [text_cat]
  congr 2
  simp [textOf]
theorem rune_len (n : Nat) : (Lib.encodeRune (n : Int)).length ≤ 4 := by
  have h1 := Lib.runeCells_le (n : Int)
  rw [Lib.runeCells_length] at h1
  exact h1.2
theorem conv_rune (n : Nat) (Z : Int) (hZ : (n : Int) = Z) (W : World) : (convert 21 9 (.int .i32 Z)).run Tryd.prog W = .ok (.string ⟨(Lib.encodeRune (n : Int)).toArray⟩) W := by
  rw [run_convert_int_string W 21 9 .i32 Z (by kernel_rfl) Tryd.underlying9, ← hZ, encode_rune]

set_option maxRecDepth 100000 in
set_option maxHeartbeats 8000000 in
theorem decodeR_any (s : ByteArray) (w : World) (hs : s.size ≤ 100000) (hT : Tabs w) :
    Calls Tryd.prog 12 #[.string s] w fun e w' => e = .returned (decRV (decL s.data.toList)) ∧ Below w.heap.size w w' := by
  obtain ⟨S, hS⟩ : ∃ S, S = s.data.toList := ⟨_, rfl⟩
  have hsS : s = ⟨S.toArray⟩ := by rw [hS]
  subst hsS
  rw [← hS]
  clear hS
  rw [text_size] at hs
  go_enter Tryd.func12, Tryd.ntmps12
  go_wp2_with fail
  go_loopg [4, 5] S.length (fun g s4 s5 wr => ∃ (i n : Nat) (out : List UInt8), i + g = S.length ∧ s5 = .int .i64 i ∧ s4 = .string ⟨out.toArray⟩ ∧ out.length ≤ 4 * i ∧ g ≤ n ∧ Below w.heap.size w wr ∧ Hid (parseF (n + 1) (S.drop i) out = parseF (S.length + 1) S []))
  case atStart => exact ⟨0, S.length, [], by omega, rfl, rfl, by simp, by omega, Below.refl _ _, by rw [List.drop_zero]; rfl⟩
  case round =>
    obtain ⟨i, n, out, hi, rfl, rfl, hol, hgn, hbw, Hf⟩ := hrel
    by_cases hlt : i < S.length
    · obtain ⟨g', rfl⟩ : ∃ g', gk = g' + 1 := ⟨gk - 1, by omega⟩
      obtain ⟨c, hc⟩ : ∃ c, S[i]? = some c := ⟨S[i], List.getElem?_eq_getElem hlt⟩
      have hcg : ∀ h, (⟨S.toArray⟩ : ByteArray)[i]'h = c := fun h => (List.getElem?_eq_some_iff.1 hc).2
      have hdr : S.drop i = c :: S.drop (i + 1) := by
        rw [← (List.getElem?_eq_some_iff.1 hc).2]; exact List.drop_eq_getElem_cons hlt
      by_cases h38 : c = 38
      · subst h38
        obtain ⟨n', rfl⟩ : ∃ n', n = n' + 1 := ⟨n - 1, by omega⟩
        have hf0 := Hf.out
        rw [hdr] at hf0
        obtain ⟨rest, hrest⟩ : ∃ rest, rest = S.drop (i + 1) := ⟨_, rfl⟩
        have hrl : rest.length = g' := by rw [hrest, List.length_drop]; omega
        rw [← hrest] at hf0 hdr
        have hts := text_size S
        have hex1 : (⟨S.toArray⟩ : ByteArray).extract i S.length = ⟨(38 :: rest).toArray⟩ := by
          rw [text_part, hdr, List.take_of_length_le (by simp only [List.length_cons]; omega)]
        have cI := Tryd.strings_IndexByte ⟨(38 :: rest).toArray⟩ 45 wr
        rw [show (⟨(38 :: rest).toArray⟩ : ByteArray).data.toList = 38 :: rest from rfl, show ((45 : Int).toNat.toUInt8) = 45 from rfl] at cI
        by_cases hneg : Lib.indexByte (38 :: rest) 45 < 0
        · have HD : Hid (decL S = none) := decL_none (Pv := none) (by rw [← hf0]; exact amp_none rest _ out hneg) rfl
          generalize Lib.indexByte (38 :: rest) 45 = X at cI hneg
          clear hf0 Hf hc hdr hrest
          go_wp2_with (go_at_call 30; go_fit cI; rintro e w' ⟨rfl, rfl⟩)
          go_ret2
          exact ⟨by rw [HD.out]; rfl, hbw⟩
        · obtain ⟨k, hk⟩ : ∃ k : Nat, Lib.indexByte (38 :: rest) 45 = (k : Int) := ⟨(Lib.indexByte (38 :: rest) 45).toNat, by omega⟩
          obtain ⟨j, hj, hjl, hpar⟩ := amp_some rest (n' + 1) out k hk
          rw [hpar] at hf0
          rw [hk] at cI
          have hdrop : S.drop (i + k + 1) = rest.drop (j + 1) := by rw [hrest, List.drop_drop]; congr 1; omega
          obtain ⟨code, hcode⟩ : ∃ code, code = rest.take j := ⟨_, rfl⟩
          have hcl : code.length = j := by rw [hcode, List.length_take]; omega
          rw [← hcode, ← hdrop] at hf0
          have hex2 : (⟨S.toArray⟩ : ByteArray).extract (i + 1) (i + k) = ⟨code.toArray⟩ := by
            rw [text_part, ← hrest, hcode]; congr 2; congr 1; omega
          have hik : i + k < S.length := by omega
          have hk1 : 1 ≤ k := by omega
          have hkj : k = code.length + 1 := by omega
          clear hk hneg hpar hdrop hcode hrest hdr hc Hf hcl hj hjl
          by_cases hc0 : code = []
          · subst hc0
            obtain rfl : k = 1 := hkj
            have HF : Hid (parseF (n' + 1) (S.drop (i + 1 + 1)) (out ++ [38]) = parseF (S.length + 1) S []) := by
              show _ = _
              rw [show runesOf [] = some [] from rfl] at hf0
              simpa [textOf] using hf0
            have hcat : (⟨out.toArray⟩ : ByteArray) ++ ⟨#[38]⟩ = ⟨(out ++ [38]).toArray⟩ := text_cat1 _ _
            have hol2 : out.length + 1 ≤ 1000000 := by omega
            clear hf0
            go_wp2_with (go_at_call 30; go_fit cI; rintro e w' ⟨rfl, rfl⟩)
            go_roundg (g' - 1)
            case measure => omega
            case rel => exact ⟨i + 1 + 1, n', out ++ [38], by omega, by go_num, rfl, by simp; omega, by omega, hbw, HF⟩
          · have hce : code.isEmpty = false := by simpa using hc0
            rw [if_neg hc0, List.append_nil] at hf0
            have HF := Lib.hid hf0
            have HK := Lib.hid hkj
            have hcl : code.length ≤ 100000 := by omega
            have hcts := text_size code
            clear hf0 hc0 hkj
            go_wp2_with (go_at_call 30; go_fit cI; rintro e w' ⟨rfl, rfl⟩)
            rw [hex2]
            clear hex2
            go_loopg [8, 58] code.length (fun g s8 s58 wr => ∃ (j : Nat) (ks : List Nat), j + g = code.length ∧ s58 = .int .i64 j ∧ s8 = .string ⟨(bstr (allBits 6 ks)).toArray⟩ ∧ ks.length = j ∧ Below w.heap.size w wr ∧ Hid (valsOf (code.take j) = some ks))
            case atStart => exact ⟨0, [], by omega, rfl, rfl, rfl, hbw, rfl⟩
            case round =>
              clear cI hbw
              obtain ⟨j, ks, hj, rfl, rfl, hks, hbw, HV⟩ := hrel
              by_cases hlt2 : j < code.length
              · obtain ⟨g2, rfl⟩ : ∃ g2, gk = g2 + 1 := ⟨gk - 1, by omega⟩
                obtain ⟨c2, hc2⟩ : ∃ c, code[j]? = some c := ⟨code[j], List.getElem?_eq_getElem hlt2⟩
                have hcg2 : ∀ h, (⟨code.toArray⟩ : ByteArray)[j]'h = c2 := fun h => (List.getElem?_eq_some_iff.1 hc2).2
                have cI2 := Tryd.strings_IndexByte ⟨LET.toArray⟩ (c2.toNat : Int) wr
                rw [show (⟨LET.toArray⟩ : ByteArray).data.toList = LET from rfl, show ((c2.toNat : Int).toNat.toUInt8) = c2 by simp] at cI2
                have htk : code.take (j + 1) = code.take j ++ [c2] := by rw [List.take_add_one, hc2]; rfl
                by_cases hneg : Lib.indexByte LET c2 < 0
                · have HD : Hid (decL S = none) := decL_none (Pv := none) (by
                    have := HF.out
                    rw [runesOf_bad (valsOf_bad code j c2 hc2 hneg)] at this
                    exact this.symm) rfl
                  generalize Lib.indexByte LET c2 = X at cI2 hneg
                  have hcx := c2.toNat_lt
                  clear hc2 htk
                  unfold LET at cI2
                  go_wp2_with (go_at_call 30; go_fit cI2; rintro e w' ⟨rfl, rfl⟩)
                  go_ret2
                  exact ⟨by rw [HD.out]; rfl, hbw⟩
                · have hx64 := let_index_lt c2 hneg
                  have HV2 : Hid (valsOf (code.take (j + 1)) = some (ks ++ [(Lib.indexByte LET c2).toNat])) := by
                    show _ = _
                    rw [htk]; exact valsOf_snoc _ _ _ HV.out hneg
                  obtain ⟨x, hx⟩ : ∃ x : Nat, Lib.indexByte LET c2 = (x : Int) := ⟨(Lib.indexByte LET c2).toNat, by omega⟩
                  rw [hx] at cI2 HV2 hx64
                  rw [Int.toNat_natCast] at HV2 hx64
                  have cB := fun W => bits_any x 6 W (by omega) (by decide)
                  have hcat2 : (⟨(bstr (allBits 6 ks)).toArray⟩ : ByteArray) ++ ⟨(bstr (bitsOf 6 x)).toArray⟩ = ⟨(bstr (allBits 6 (ks ++ [x]))).toArray⟩ := by
                    rw [text_cat, ← bstr_app, allBits_append]; simp [allBits]
                  have hbl1 : (bstr (allBits 6 ks)).length ≤ 600000 := by rw [bstr_len, allBits_length]; omega
                  have hbl2 : (bstr (bitsOf 6 x)).length ≤ 600000 := by rw [bstr_len, bitsOf_length]; omega
                  have hcx := c2.toNat_lt
                  have hxi : (0 : Int) ≤ (x : Int) := by omega
                  clear hc2 htk hx hneg hx64
                  unfold LET at cI2
                  go_wp2_with (first | (go_at_call 30; go_fit cI2; rintro e w' ⟨rfl, rfl⟩) | (go_at_call 27; refine (cB _).mono ?_; rintro e w3 ⟨rfl, hb3⟩))
                  go_roundg g2
                  case measure => omega
                  case rel => exact ⟨j + 1, ks ++ [x], by omega, by go_num, rfl, by simp; omega, hbw.trans (hb3.mono hbw.size), HV2⟩
              · have hjc : j = code.length := by omega
                have hv := HV.out
                rw [List.take_of_length_le (by omega)] at hv
                have hf1 := HF.out
                rw [runesOf_vals hv] at hf1
                have HF1 := Lib.hid hf1
                have HVl : Hid (∀ k ∈ ks, k < 64) := valsOf_lt _ _ hv
                have hbl1 : (bstr (allBits 6 ks)).length ≤ 600000 := by rw [bstr_len, allBits_length]; omega
                have hksl : ks.length = code.length := by omega
                clear hv hf1 hjc
                go_wp2_with fail
                clear hlt2 hj hks
                go_loopg [8, 11] code.length (fun g s8 s11 wr => ∃ (us : List Nat) (r : List Bool), s8 = .string ⟨(bstr r).toArray⟩ ∧ wr.ownsRow w.heap.size 3 1 s11 us.length (intVals us) ∧ Below w.heap.size w wr ∧ r.length ≤ 16 * g + 15 ∧ us.length * 16 + r.length = 6 * code.length ∧ Hid (allBits 16 us ++ r = allBits 6 ks ∧ ∀ u ∈ us, u < 65536))
                case atStart => exact ⟨[], allBits 6 ks, rfl, World.ownsRow_nil _ _ _ _, hbw, by rw [allBits_length]; omega, by rw [allBits_length]; simp; omega, by simp [allBits], by simp⟩
                case round =>
                  clear hbw
                  obtain ⟨us, r, rfl, hown, hbw, hrg, hur, HB⟩ := hrel
                  have hrl1 : (bstr r).length ≤ 600000 := by rw [bstr_len]; omega
                  have hrl2 := bstr_len r
                  have hrts := text_size (bstr r)
                  by_cases h16 : 16 ≤ r.length
                  · obtain ⟨g3, rfl⟩ : ∃ g3, gk = g3 + 1 := ⟨gk - 1, by omega⟩
                    obtain ⟨Q, hQ⟩ : ∃ Q, Q = r.take 16 := ⟨_, rfl⟩
                    have hQl : Q.length = 16 := by rw [hQ, List.length_take]; omega
                    have hexQ : (⟨(bstr r).toArray⟩ : ByteArray).extract 0 16 = ⟨(bstr Q).toArray⟩ := by
                      rw [text_part, hQ]; simp [bstr, List.map_take]
                    obtain ⟨r2, hr2⟩ : ∃ r2, r2 = r.drop 16 := ⟨_, rfl⟩
                    have hr2l : r2.length + 16 = r.length := by rw [hr2, List.length_drop]; omega
                    have hexR : (⟨(bstr r).toArray⟩ : ByteArray).extract 16 r.length = ⟨(bstr r2).toArray⟩ := by
                      rw [text_part, hr2]
                      unfold bstr
                      rw [← List.map_drop, List.take_of_length_le (by simp)]
                    have HB2 : Hid (allBits 16 (us ++ [valOf Q]) ++ r2 = allBits 6 ks ∧ ∀ u ∈ us ++ [valOf Q], u < 65536) := by
                      obtain ⟨h1, h2⟩ := HB.out
                      have hbv := bitsOf_val Q
                      rw [hQl] at hbv
                      refine ⟨?_, ?_⟩
                      · rw [← h1, allBits_append, show allBits 16 [valOf Q] = bitsOf 16 (valOf Q) by simp [allBits], hbv, hQ, hr2, List.append_assoc, List.take_append_drop]
                      · intro u hu
                        rcases List.mem_append.1 hu with hu | hu
                        · exact h2 u hu
                        · rw [List.mem_singleton] at hu
                          rw [hu]
                          have := valOf_lt Q
                          rw [hQl] at this
                          exact this
                    have hrlz : (16 : Int) ≤ (r.length : Int) := by omega
                    clear HB hQ hr2
                    obtain ⟨wo, rfl⟩ : ∃ wo : World, wo = wr := ⟨_, rfl⟩
                    have hszB : w.heap.size ≤ wo.heap.size := hbw.size
                    go_wp2_with fail
                    go_loopg [12] 16 (fun g s12 wr => ∃ (j K : Nat), j + g = 16 ∧ s12 = .int .i64 K ∧ K < 2 ^ j ∧ Hid (K = valOf (Q.take j)) ∧ wr.heap[wo.heap.size]? = some (.stringIter ⟨(bstr Q).toArray⟩ j) ∧ wr.ownsRow w.heap.size 3 1 u11 us.length (intVals us) ∧ Below w.heap.size w wr)
                    case atStart =>
                      refine ⟨0, 0, by omega, rfl, by decide, by show _ = _; simp [valOf], ?_, owns_same hown (fun k o hk _ => alloc_same hk), hbw.alloc hszB _⟩
                      have := World.iter_heap wo ⟨(bstr Q).toArray⟩ 0
                      simpa using this
                    case round =>
                      clear hown hbw
                      obtain ⟨j, K, hj, rfl, hK, HKv, hit, hown, hbw⟩ := hrel
                      have hsz : wo.heap.size < wr.heap.size := (Array.getElem?_eq_some_iff.1 hit).1
                      by_cases hj16 : j < 16
                      · obtain ⟨g4, rfl⟩ : ∃ g4, gk = g4 + 1 := ⟨gk - 1, by omega⟩
                        obtain ⟨b, hb⟩ : ∃ b, Q[j]? = some b := ⟨Q[j], List.getElem?_eq_getElem (by omega)⟩
                        have hK32 : K < 2 ^ 15 := Nat.lt_of_lt_of_le hK (Nat.pow_le_pow_right (by decide) (by omega))
                        have hdec := decode_letter (bstr Q) j _ (bstr_get Q j b hb) (by cases b <;> decide)
                        have hnx : ∀ ty, (Instr.next (.pointer (some ⟨wo.heap.size, 0, none⟩)) true ty).run Tryd.prog wr = _ := fun ty => Lib.run_next_any_at wr (wo.heap.size) ⟨(bstr Q).toArray⟩ j ty hit (by rw [text_size, bstr_len]; omega)
                        rw [hdec] at hnx
                        have HB : Hid (valOf (Q.take (j + 1)) = 2 * valOf (Q.take j) + b.toNat) := by
                          show _ = _
                          rw [← valOf_snoc, List.take_add_one, hb]; rfl
                        have hit2 := Lib.iterAt_heap wr (wo.heap.size) ⟨(bstr Q).toArray⟩ j (j + 1) hit
                        have hb2 := Lib.below_iterAt hbw (k := wo.heap.size) hszB ⟨(bstr Q).toArray⟩ (j + 1)
                        have hown2 : (wr.iterAt (wo.heap.size) ⟨(bstr Q).toArray⟩ (j + 1)).ownsRow w.heap.size 3 1 u11 us.length (intVals us) := owns_same hown (fun k o hk ho => (Lib.iterAt_other wr _ k _ (j + 1) (ne_of_obj hk hit (by obtain ⟨c, fz, rfl⟩ := ho; intro h; cases h))).trans hk)
                        obtain ⟨X, hX⟩ : ∃ X, wr.iterAt (wo.heap.size) ⟨(bstr Q).toArray⟩ (j + 1) = X := ⟨_, rfl⟩
                        cases b with
                        | true =>
                          simp only [if_true, show (49 : UInt8).toNat = 49 from rfl] at hnx
                          rw [hX] at hnx hit2 hb2 hown2
                          clear hX hb hdec hit hown hbw
                          go_wp2_with fail
                          go_roundg g4
                          case measure => omega
                          case rel => exact ⟨j + 1, K * 2 + 1, by omega, by go_num, by rw [Nat.pow_succ]; omega, by show _ = _; rw [HB.out, ← HKv.out]; simp; omega, hit2, hown2, hb2⟩
                        | false =>
                          simp only [Bool.false_eq_true, if_false, show (48 : UInt8).toNat = 48 from rfl] at hnx
                          rw [hX] at hnx hit2 hb2 hown2
                          clear hX hb hdec hit hown hbw
                          go_wp2_with fail
                          go_roundg g4
                          case measure => omega
                          case rel => exact ⟨j + 1, K * 2, by omega, by go_num, by rw [Nat.pow_succ]; omega, by show _ = _; rw [HB.out, ← HKv.out]; simp; omega, hit2, hown2, hb2⟩
                      · have hje : j = 16 := by omega
                        subst hje
                        have hnx : ∀ ty, (Instr.next (.pointer (some ⟨wo.heap.size, 0, none⟩)) true ty).run Tryd.prog wr = _ := fun ty => Lib.run_next_end_at wr (wo.heap.size) ⟨(bstr Q).toArray⟩ 16 ty hit (by rw [text_size, bstr_len]; omega)
                        have HKQ : Hid (valOf Q = K) := by
                          show _ = _
                          have := HKv.out
                          rw [List.take_of_length_le (by omega)] at this
                          exact this.symm
                        have HK16 := Lib.hid hK
                        clear hK
                        have husl : us.length ≤ 600000 := by omega
                        go_wp2_with (at_builtin; go_must (refine wpList_app1 rfl _ _ 57 rfl 3 Tryd.underlying57 int_info rfl w.heap.size _ _ _ _ rfl hown (.int .i64 (K : Int)) rfl rfl ?c3 (by decide) ?c5 ?_))
                        case c3 => omega
                        case c5 => exact hbw.size
                        intro v' w4 hown3 hg3 hv3
                        have hb3 := below_app hbw hbw.size hown hg3
                        go_wp2_with fail
                        go_roundg g3
                        case measure => omega
                        case rel =>
                          refine ⟨us ++ [K], r2, rfl, ?_, hb3, by omega, by simp; omega, ?_⟩
                          · simpa [intVals] using hown3
                          · have := HB2.out
                            rw [HKQ.out] at this
                            exact this
                  · have HU : Hid ((unFold ks).1 = us) := units_bits ks us r HVl.out HB.out.2 (by omega) HB.out.1
                    have HU2 : Hid (∀ u ∈ us, u < 65536) := HB.out.2
                    have hrlz : (r.length : Int) < 16 := by omega
                    have hul : us.length ≤ 600000 := by omega
                    have hul2 : us.length ≤ code.length := by omega
                    have HF2 : Hid ((match pairU us with
                        | none => none
                        | some l => parseF (n' + 1) (S.drop (i + k + 1)) (out ++ textOf l)) = parseF (S.length + 1) S []) := by
                      have := HF1.out
                      rw [HU.out] at this
                      exact this
                    obtain ⟨ao, cap, rfl, hao⟩ := owns_slice hown
                    clear HB
                    go_wp2_with fail
                    obtain ⟨wD, rfl⟩ : ∃ wD : World, wD = wr := ⟨_, rfl⟩
                    go_loopg [4, 15] us.length (fun g s4 s15 wr => ∃ (j : Nat) (rs : List Nat), us.length ≤ j + g ∧ j ≤ us.length ∧ s15 = .int .i64 j ∧ s4 = .string ⟨(out ++ textOf rs).toArray⟩ ∧ rs.length ≤ j ∧ wr = wD ∧ Hid ((pairU (us.drop j)).map (rs ++ ·) = pairU us))
                    case atStart => exact ⟨0, [], by omega, by omega, rfl, by simp [textOf], by simp, rfl, by show _ = _; simp⟩
                    case round =>
                      obtain ⟨j, rs, hjg, hju, rfl, rfl, hrs, rfl, HP⟩ := hrel
                      have htl := textOf_len rs
                      have hotl : (out ++ textOf rs).length + 4 ≤ 4000000 := by rw [List.length_append]; omega
                      by_cases hlt3 : j < us.length
                      · obtain ⟨g5, rfl⟩ : ∃ g5, gk = g5 + 1 := ⟨gk - 1, by omega⟩
                        obtain ⟨gq, rfl⟩ := hao (by omega)
                        obtain ⟨u, hu⟩ : ∃ u, us[j]? = some u := ⟨us[j], List.getElem?_eq_getElem hlt3⟩
                        have cU : wr.cell? ⟨gq, j, none⟩ = some (.int .i64 (u : Int)) := owns_cell hown (by simp [intVals, hu])
                        have hu16 := HU2.out u (List.mem_of_getElem? hu)
                        obtain ⟨U, hU⟩ : ∃ U : Int, (u : Int) = U := ⟨_, rfl⟩
                        have hU0 : 0 ≤ U := by omega
                        have hU1 : U < 65536 := by omega
                        rw [hU] at cU
                        have cA := in_any U 55296 56319 wr
                        have cC := in_any U 55296 57343 wr
                        have hrz : (rs.length : Int) ≤ 1000000 := by omega
                        by_cases hhi : 55296 ≤ u ∧ u ≤ 56319
                        · rw [show (decide ((55296 : Int) ≤ U) && decide (U ≤ 56319)) = true by simp; omega] at cA
                          rw [show (decide ((55296 : Int) ≤ U) && decide (U ≤ 57343)) = true by simp; omega] at cC
                          by_cases hj1 : j + 1 < us.length
                          · obtain ⟨v, hv⟩ : ∃ v, us[j + 1]? = some v := ⟨us[j + 1], List.getElem?_eq_getElem hj1⟩
                            have cV : wr.cell? ⟨gq, j + 1, none⟩ = some (.int .i64 (v : Int)) := owns_cell hown (by simp [intVals, hv])
                            have hv16 := HU2.out v (List.mem_of_getElem? hv)
                            obtain ⟨V, hV⟩ : ∃ V : Int, (v : Int) = V := ⟨_, rfl⟩
                            have hV0 : 0 ≤ V := by omega
                            have hV1 : V < 65536 := by omega
                            rw [hV] at cV
                            have cB2 := in_any V 56320 57343 wr
                            by_cases hlo : 56320 ≤ v ∧ v ≤ 57343
                            · rw [show (decide ((56320 : Int) ≤ V) && decide (V ≤ 57343)) = true by simp; omega] at cB2
                              have HP2 := pair_two hu hv (by omega) (by omega) HP.out
                              obtain ⟨N, hN⟩ : ∃ N : Nat, N = 65536 + (u % 1024) * 1024 + v % 1024 := ⟨_, rfl⟩
                              rw [← hN] at HP2
                              have hcv := conv_rune N (65536 + (U - 55296) * 1024 + V - 56320) (by omega)
                              have hsn := text_snoc out rs N
                              have hrn := rune_len N
                              have hU2 : 55296 ≤ U := by omega
                              have hU3 : U ≤ 56319 := by omega
                              have hV2 : 56320 ≤ V := by omega
                              have hV3 : V ≤ 57343 := by omega
                              clear hu hv hu16 hv16 hU hV hhi hlo hN cC
                              go_wp2_with (first | (go_at_call 26; with_reducible refine cA.mono ?_; rintro e wA ⟨rfl, rfl⟩) | (go_at_call 26; with_reducible refine cB2.mono ?_; rintro e wA ⟨rfl, rfl⟩) | (go_at_call 26; with_reducible refine cC.mono ?_; rintro e wA ⟨rfl, rfl⟩))
                              go_roundg (g5 - 1)
                              case measure => omega
                              case rel => exact ⟨j + 2, rs ++ [N], by omega, by omega, by go_num, rfl, by simp; omega, rfl, HP2⟩
                            · rw [show (decide ((56320 : Int) ≤ V) && decide (V ≤ 57343)) = false by simp; omega] at cB2
                              have HPn := pair_bad hu (by omega) (Or.inr (Or.inr ⟨v, hv, by omega⟩)) HP.out
                              have HD : Hid (decL S = none) := decL_none (Pv := none) (by
                                have := HF2.out
                                rw [HPn.out] at this
                                exact this.symm) rfl
                              clear hu hv hu16 hv16 hU hV hhi hlo
                              go_wp2_with (first | (go_at_call 26; with_reducible refine cA.mono ?_; rintro e wA ⟨rfl, rfl⟩) | (go_at_call 26; with_reducible refine cB2.mono ?_; rintro e wA ⟨rfl, rfl⟩) | (go_at_call 26; with_reducible refine cC.mono ?_; rintro e wA ⟨rfl, rfl⟩))
                              go_ret2
                              exact ⟨by rw [HD.out]; rfl, hbw⟩
                          · have hje : j + 1 = us.length := by omega
                            have HPn := pair_bad hu (by omega) (Or.inr (Or.inl hje)) HP.out
                            have HD : Hid (decL S = none) := decL_none (Pv := none) (by
                              have := HF2.out
                              rw [HPn.out] at this
                              exact this.symm) rfl
                            clear hu hu16 hU hhi
                            go_wp2_with (first | (go_at_call 26; with_reducible refine cA.mono ?_; rintro e wA ⟨rfl, rfl⟩) | (go_at_call 26; with_reducible refine cC.mono ?_; rintro e wA ⟨rfl, rfl⟩))
                            go_ret2
                            exact ⟨by rw [HD.out]; rfl, hbw⟩
                        · rw [show (decide ((55296 : Int) ≤ U) && decide (U ≤ 56319)) = false by simp; omega] at cA
                          by_cases hsu : 56320 ≤ u ∧ u ≤ 57343
                          · rw [show (decide ((55296 : Int) ≤ U) && decide (U ≤ 57343)) = true by simp; omega] at cC
                            have HPn := pair_bad hu (by omega) (Or.inl (by omega)) HP.out
                            have HD : Hid (decL S = none) := decL_none (Pv := none) (by
                              have := HF2.out
                              rw [HPn.out] at this
                              exact this.symm) rfl
                            clear hu hu16 hU hhi hsu
                            go_wp2_with (first | (go_at_call 26; with_reducible refine cA.mono ?_; rintro e wA ⟨rfl, rfl⟩) | (go_at_call 26; with_reducible refine cC.mono ?_; rintro e wA ⟨rfl, rfl⟩))
                            go_ret2
                            exact ⟨by rw [HD.out]; rfl, hbw⟩
                          · rw [show (decide ((55296 : Int) ≤ U) && decide (U ≤ 57343)) = false by simp; omega] at cC
                            have HP1 := pair_one hu (by omega) HP.out
                            have hcv := conv_rune u U hU
                            have hsn := text_snoc out rs u
                            have hrn := rune_len u
                            clear hu hu16 hU hhi hsu
                            go_wp2_with (first | (go_at_call 26; with_reducible refine cA.mono ?_; rintro e wA ⟨rfl, rfl⟩) | (go_at_call 26; with_reducible refine cC.mono ?_; rintro e wA ⟨rfl, rfl⟩))
                            go_roundg g5
                            case measure => omega
                            case rel => exact ⟨j + 1, rs ++ [u], by omega, by omega, by go_num, rfl, by simp; omega, rfl, HP1⟩
                      · have hrsl : rs.length ≤ us.length := by omega
                        have HFn : Hid (parseF (n' + 1) (S.drop (i + k + 1)) (out ++ textOf rs) = parseF (S.length + 1) S []) := by
                          have h1 := HP.out
                          rw [List.drop_eq_nil_of_le (by omega)] at h1
                          have h2 := HF2.out
                          rw [← h1] at h2
                          show _ = _
                          simpa [pairU] using h2
                        have hkc := HK.out
                        have hgk : g' - k ≤ n' := by omega
                        have hou : (out ++ textOf rs).length ≤ 4 * (i + k + 1) := by rw [List.length_append]; omega
                        have hgm : i + k + 1 + (g' - k) = S.length := by omega
                        have HG := Lib.hid hgk
                        have HO := Lib.hid hou
                        have HM := Lib.hid hgm
                        clear hkc hgk hou hgm
                        go_wp2_with fail
                        go_roundg (g' - k)
                        case measure => omega
                        case rel => exact ⟨i + k + 1, n', out ++ textOf rs, HM.out, by go_num, rfl, HO.out, HG.out, hbw, HFn⟩
      · have hf0 := Hf.out
        rw [hdr, parse_cons _ _ _ _ h38] at hf0
        have HF : Hid (parseF (n + 1) (S.drop (i + 1)) (out ++ [c]) = parseF (S.length + 1) S []) := hf0
        have hne : ((c.toNat : Int) != 38) = true := by
          rw [bne_iff_ne]; intro h; exact h38 (UInt8.toNat_inj.1 (by show c.toNat = 38; omega))
        have hex : (⟨S.toArray⟩ : ByteArray).extract i (i + 1) = ⟨#[c]⟩ := by
          rw [text_part, hdr]; simp
        have hcat : (⟨out.toArray⟩ : ByteArray) ++ ⟨#[c]⟩ = ⟨(out ++ [c]).toArray⟩ := text_cat1 _ _
        have hol2 : out.length + 1 ≤ 1000000 := by omega
        have hts := text_size S
        clear hf0 Hf hc hdr h38
        go_wp2_with fail
        go_roundg g'
        case measure => omega
        case rel => exact ⟨i + 1, n, out ++ [c], by omega, by go_num, rfl, by simp; omega, by omega, hbw, HF⟩
    · have hie : i = S.length := by omega
      have hf0 := Hf.out
      rw [List.drop_eq_nil_of_le (by omega), show parseF (n + 1) [] out = some out from rfl] at hf0
      have HP : Hid (parseF (S.length + 1) S [] = some out) := hf0.symm
      have hts := text_size S
      have hSl : (⟨S.toArray⟩ : ByteArray).data.toList = S := rfl
      have hSl2 : (⟨S.toArray⟩ : ByteArray).toList = S := by rw [Lib.toList_data]
      clear hf0 Hf
      by_cases hR : rightL out = true
      · have cE := encodeR_yes ⟨out.toArray⟩ wr (hT.below hbw) (by simpa using hR)
        have HR := Lib.hid hR
        clear hR
        go_wp2_with (go_at_call 9; refine cE.mono ?_; rintro e w1 ⟨rfl, hb1⟩)
        · have hq : (!encL (out) == S) = true := by first | assumption | (simpa using (by assumption : (!encL _ == _) = true))
          go_ret2
          refine ⟨?_, hbw.trans (hb1.mono hbw.size)⟩
          rw [decL_of HP.out rfl, if_neg (by intro h; rw [h.2] at hq; simp at hq)]
          rfl
        · have hq : (!encL (out) == S) = false := by first | assumption | (simpa using (by assumption : (!encL _ == _) = false))
          go_ret2
          refine ⟨?_, hbw.trans (hb1.mono hbw.size)⟩
          rw [decL_of HP.out rfl, if_pos ⟨HR.out, by simpa using hq⟩]
          rfl
      · have hRf : rightL (out) = false := by simpa using hR
        have cE := encodeR_no ⟨(out).toArray⟩ wr (by rw [mk_size]; omega) (hT.below hbw) (by simpa using hRf)
        have HR := Lib.hid hR
        clear hR hRf
        go_wp2_with (go_at_call 9; refine cE.mono ?_; rintro e X3 ⟨rfl, hb5⟩)
        go_ret2
        refine ⟨?_, hbw.trans (hb5.mono hbw.size)⟩
        rw [decL_of HP.out rfl, if_neg (fun h => HR.out h.1)]
        rfl
end Go.Proofs.YtkaagodacjgoaaaDoor
