/- The walk over the reference's flush (a closure): what waits is written in sixes; nothing waits. No condition beyond those it names. -/
import Derived.Test.YtkaagodacjgoaaaDoorRows
import Derived.Test.YtkaagodacjgoaaaDoorRefA
import Derived.StillTailTactics
import Derived.IntWalk
namespace Go.Proofs.YtkaagodacjgoaaaDoor
open Go.RowKit Go.Shelf

theorem bstr_get (l : List Bool) (j : Nat) (b : Bool) (h : l[j]? = some b) : (bstr l)[j]? = some (if b then 49 else 48) := by simp [bstr, h]
theorem pad_len (n z g : Nat) (h : (n + z + g) % 6 = 0) (h6 : ¬ (n + z) % 6 = 0) : ∃ g', g = g' + 1 := ⟨g - 1, by
  have : g ≠ 0 := by intro h0; subst h0; omega
  omega⟩

theorem let_partF : ∀ x : Fin 64, (({ data := #[65, 66, 67, 68, 69, 70, 71, 72, 73, 74, 75, 76, 77, 78, 79, 80, 81, 82, 83, 84, 85, 86, 87, 88, 89, 90, 97, 98, 99, 100, 101, 102, 103, 104, 105, 106, 107, 108, 109, 110, 111, 112, 113, 114, 115, 116, 117, 118, 119, 120, 121, 122, 48, 49, 50, 51, 52, 53, 54, 55, 56, 57, 43, 44] } : ByteArray).extract x.val (x.val + 1)).data.toList = [lett x.val] := by decide
theorem let_part (x : Nat) (h : x < 64) : ({ data := #[65, 66, 67, 68, 69, 70, 71, 72, 73, 74, 75, 76, 77, 78, 79, 80, 81, 82, 83, 84, 85, 86, 87, 88, 89, 90, 97, 98, 99, 100, 101, 102, 103, 104, 105, 106, 107, 108, 109, 110, 111, 112, 113, 114, 115, 116, 117, 118, 119, 120, 121, 122, 48, 49, 50, 51, 52, 53, 54, 55, 56, 57, 43, 44] } : ByteArray).extract x (x + 1) = ⟨#[lett x]⟩ := by
  apply ByteArray.ext
  have := let_partF ⟨x, h⟩
  rw [← Array.toList_inj]
  exact this

set_option maxRecDepth 100000 in
set_option maxHeartbeats 4000000 in
theorem flushR_any (ww ow B : Nat) (rs : List Nat) (out : List UInt8) (w : World) (hBw : B ≤ ww) (hBo : B ≤ ow) (hne : ww ≠ ow)
    (hW : w.heap[ww]? = some (.cells #[.string ⟨(bstr (allBits 16 (rs.flatMap unitsOf))).toArray⟩] 9 (0, 0)))
    (hO : w.heap[ow]? = some (.cells #[.string ⟨out.toArray⟩] 9 (0, 0))) (hr : ∀ r ∈ rs, r ≤ 1114111) (hn : rs.length ≤ 1000) (hout : out.length ≤ 100000) :
    Calls Tryd.prog 25 #[.pointer (some ⟨ww, 0, none⟩), .pointer (some ⟨ow, 0, none⟩)] w fun e w' => e = .returned (.tuple #[]) ∧ (w'.heap[ww]? = some (.cells #[.string ⟨#[]⟩] 9 (0, 0)) ∧ w'.heap[ow]? = some (.cells #[.string ⟨(flushL out rs).toArray⟩] 9 (0, 0)) ∧ Below B w w' ∧
      (∀ (k : Nat) (o : Obj), w.heap[k]? = some o → k ≠ ww → k ≠ ow → w'.heap[k]? = some o)) := by
  have cW : w.cell? ⟨ww, 0, none⟩ = some (.string ⟨(bstr (allBits 16 (rs.flatMap unitsOf))).toArray⟩) := by rw [Lib.cell_of_heap hW]; rfl
  cases rs with
  | nil =>
    have cW0 : w.cell? ⟨ww, 0, none⟩ = some (.string ⟨#[]⟩) := cW
    clear cW
    go_enter Tryd.func25, Tryd.ntmps25
    go_wp2_with fail
    exact bodyPost_ret (v := .tuple #[]) (by simp [results, Tryd.results25, go_sem]) rfl ⟨rfl, hW, hO, Below.refl _ _, fun k o hk _ _ => hk⟩
  | cons r0 rs0 =>
    have hu := units_all_lt (r0 :: rs0) hr
    have hul := units_len (r0 :: rs0)
    have hu1 : 1 ≤ ((r0 :: rs0).flatMap unitsOf).length := by
      rw [List.flatMap_cons, List.length_append]
      have : 1 ≤ (unitsOf r0).length := by unfold unitsOf; split <;> simp
      omega
    have hfl : flushL out (r0 :: rs0) = out ++ ([38] ++ (sixes ((r0 :: rs0).flatMap unitsOf)).map lett ++ [45]) := by simp [flushL]
    rw [hfl]
    clear hfl
    simp only [List.length_cons] at hul hn
    generalize (r0 :: rs0).flatMap unitsOf = us at *
    have hul2 : us.length ≤ 2000 := by omega
    clear hul hn hr
    obtain ⟨n, hn⟩ : ∃ n, n = 16 * us.length := ⟨_, rfl⟩
    have hnl : (allBits 16 us).length = n := by rw [allBits_length]; omega
    obtain ⟨L, hL⟩ : ∃ L, L = bstr (allBits 16 us) := ⟨_, rfl⟩
    rw [← hL] at cW hW
    have hLl : L.length = n := by rw [hL, bstr_len, hnl]
    have hn0 : 1 ≤ n := by omega
    have hn1 : n ≤ 32000 := by omega
    have hL0 : L.isEmpty = false := by
      cases L with
      | nil => simp at hLl; omega
      | cons a l => rfl
    have HL := Lib.hid hL
    have HU := Lib.hid hu
    have HUL : Hid (n = 16 * us.length) := hn
    clear hL hu hn hnl hul2 hu1
    go_enter Tryd.func25, Tryd.ntmps25
    go_wp2_with fail
    have hT1 := @text_cat1
    have hT := @text_cat
    have hTs := @text_size
    go_loopg [] (5 * n % 6) (fun g wr => ∃ z : Nat, (n + z + g) % 6 = 0 ∧ z + g ≤ 5 ∧ wr.heap[ww]? = some (.cells #[.string ⟨(L ++ List.replicate z 48).toArray⟩] 9 (0, 0)) ∧ wr.heap[ow]? = some (.cells #[.string ⟨out.toArray⟩] 9 (0, 0)) ∧ Below B w wr ∧
      (∀ (k : Nat) (o : Obj), w.heap[k]? = some o → k ≠ ww → k ≠ ow → wr.heap[k]? = some o))
    case atStart => exact ⟨0, by omega, by omega, by rw [List.replicate_zero, List.append_nil]; exact hW, hO, Below.refl _ _, fun k o hk _ _ => hk⟩
    case round =>
      obtain ⟨z, hz6, hz5, hW1, hO1, hb1, hk1⟩ := hrel
      have hPl : (L ++ List.replicate z 48).length = n + z := by simp [hLl]
      have hPS : L ++ List.replicate (z + 1) 48 = (L ++ List.replicate z 48) ++ [48] := by rw [List.replicate_succ', List.append_assoc]
      have HPS := Lib.hid hPS
      have HP : Hid (L ++ List.replicate z 48 = bstr (allBits 16 us ++ List.replicate z false)) := by
        show _ = _
        rw [bstr_app, HL.out]; congr 1; simp [bstr]
      generalize L ++ List.replicate z 48 = P at hW1 hPl HPS HP
      clear hPS
      have cW1 : wr.cell? ⟨ww, 0, none⟩ = some (.string ⟨P.toArray⟩) := by rw [Lib.cell_of_heap hW1]; rfl
      have fW1 : wr.frozen? ⟨ww, 0, none⟩ = false := Lib.frozen_of_heap hW1 0
      by_cases h6 : (n + z) % 6 = 0
      · obtain ⟨m, hm⟩ : ∃ m, n + z = 6 * m := ⟨(n + z) / 6, by omega⟩
        have h6z : ((P.length : Nat) : Int) % 6 = 0 := by omega
        have cO1 : wr.cell? ⟨ow, 0, none⟩ = some (.string ⟨out.toArray⟩) := by rw [Lib.cell_of_heap hO1]; rfl
        have fO1 : wr.frozen? ⟨ow, 0, none⟩ = false := Lib.frozen_of_heap hO1 0
        have hPm : P.length = 6 * m := by omega
        have hm1 : m ≤ 6000 := by omega
        have hcat : (⟨out.toArray⟩ : ByteArray) ++ ⟨#[38]⟩ = ⟨(out ++ [38]).toArray⟩ := text_cat1 _ _
        have hol : out.length + 1 ≤ 1000000 := by omega
        go_wp2_with fail
        have hW2 := setCell_same (a := ⟨ow, 0, none⟩) (u := .string ⟨(out ++ [38]).toArray⟩) hW1 hne
        have hO2 := setCell_one (u := .string ⟨(out ++ [38]).toArray⟩) hO1
        have hb2 : Below B w (wr.setCell ⟨ow, 0, none⟩ (.string ⟨(out ++ [38]).toArray⟩)) := hb1.setCell hBo _
        have hk2 : ∀ (k : Nat) (o : Obj), w.heap[k]? = some o → k ≠ ww → k ≠ ow → (wr.setCell ⟨ow, 0, none⟩ (.string ⟨(out ++ [38]).toArray⟩)).heap[k]? = some o := fun k o hk h1 h2 => setCell_same (hk1 k o hk h1 h2) h2
        generalize wr.setCell ⟨ow, 0, none⟩ (.string ⟨(out ++ [38]).toArray⟩) = X at hW2 hO2 hb2 hk2
        obtain ⟨PB, hPB⟩ : ∃ PB, PB = allBits 16 us ++ List.replicate z false := ⟨_, rfl⟩
        have hPBl : PB.length = 6 * m := by rw [← hPm, HP.out, ← hPB, bstr_len]
        obtain ⟨SV, hSV⟩ : ∃ SV, SV = sixVals m PB := ⟨_, rfl⟩
        have HSl : SV.length = m := by rw [hSV, sixVals_len]
        have HS : Hid (∀ k, k < m → SV[k]? = some (valOf ((PB.drop (6 * k)).take 6))) := fun k hk => by rw [hSV]; exact sixVals_get m PB k hk
        have HS6 : Hid (SV = sixes us) := by
          show SV = _
          rw [hSV, hPB]
          exact sixVals_sixes us HU.out z m (by omega) (by have := HUL.out; omega)
        have HPP : Hid (P = bstr PB) := by rw [hPB]; exact HP
        have HP6 : Hid (PB.length = 6 * m) := hPBl
        clear hPBl hSV hPB HP HPS hL0 hcat h6z h6 hPl hm cW1 fW1 cO1 fO1 hW1 hO1 hb1 hk1
        go_loopg [2] m (fun g s2 wr => ∃ k i : Nat, Hid (i = 6 * k) ∧ i + 6 * g = 6 * m ∧ k + g = m ∧ s2 = .int .i64 i ∧ wr.heap[ww]? = some (.cells #[.string ⟨P.toArray⟩] 9 (0, 0)) ∧ wr.heap[ow]? = some (.cells #[.string ⟨(out ++ [38] ++ (SV.take k).map lett).toArray⟩] 9 (0, 0)) ∧ Below B w wr ∧
          (∀ (k : Nat) (o : Obj), w.heap[k]? = some o → k ≠ ww → k ≠ ow → wr.heap[k]? = some o))
        case atStart => exact ⟨0, 0, rfl, by omega, by omega, rfl, hW2, by rw [List.take_zero, List.map_nil, List.append_nil]; exact hO2, hb2, hk2⟩
        case round =>
          clear hW2 hO2 hb2 hk2
          obtain ⟨k, i, Hi, hi6, hkm, rfl, hW3, hO3, hb3, hk3⟩ := hrel
          have cW3 : wr.cell? ⟨ww, 0, none⟩ = some (.string ⟨P.toArray⟩) := by rw [Lib.cell_of_heap hW3]; rfl
          have cO3 : wr.cell? ⟨ow, 0, none⟩ = some (.string ⟨(out ++ [38] ++ (SV.take k).map lett).toArray⟩) := by rw [Lib.cell_of_heap hO3]; rfl
          have fO3 : wr.frozen? ⟨ow, 0, none⟩ = false := Lib.frozen_of_heap hO3 0
          by_cases hlt : k < m
          · obtain ⟨g', rfl⟩ : ∃ g', gk = g' + 1 := ⟨gk - 1, by omega⟩
            obtain ⟨Q, hQ⟩ : ∃ Q, Q = (PB.drop (6 * k)).take 6 := ⟨_, rfl⟩
            have hQl : Q.length = 6 := by rw [hQ, List.length_take, List.length_drop, HP6.out]; omega
            have hex : (⟨P.toArray⟩ : ByteArray).extract i (i + 6) = ⟨(bstr Q).toArray⟩ := by
              rw [text_part, HPP.out, hQ, Hi.out]
              congr 2
              unfold bstr
              rw [List.map_take, List.map_drop]
              congr 1; omega
            have HQ : Hid (SV[k]? = some (valOf Q)) := by
              show _ = _
              rw [hQ]; exact HS.out k hlt
            have hip : i + 6 ≤ P.length := by omega
            clear hQ
            go_wp2_with fail
            obtain ⟨wo, rfl⟩ : ∃ wo : World, wo = wr := ⟨_, rfl⟩
            have hszB : B ≤ wo.heap.size := by have := (Array.getElem?_eq_some_iff.1 hW3).1; omega
            have hww : ww < wo.heap.size := (Array.getElem?_eq_some_iff.1 hW3).1
            have how : ow < wo.heap.size := (Array.getElem?_eq_some_iff.1 hO3).1
            go_loopg [3] 6 (fun g s3 wr => ∃ (j K : Nat), j + g = 6 ∧ s3 = .int .i64 K ∧ K < 2 ^ j ∧ Hid (K = valOf (Q.take j)) ∧ wr.heap[wo.heap.size]? = some (.stringIter ⟨(bstr Q).toArray⟩ j) ∧ wr.heap[ww]? = some (.cells #[.string ⟨P.toArray⟩] 9 (0, 0)) ∧ wr.heap[ow]? = some (.cells #[.string ⟨(out ++ [38] ++ (SV.take k).map lett).toArray⟩] 9 (0, 0)) ∧ Below B w wr ∧
              (∀ (k : Nat) (o : Obj), w.heap[k]? = some o → k ≠ ww → k ≠ ow → wr.heap[k]? = some o))
            case atStart =>
              refine ⟨0, 0, by omega, rfl, by decide, by show _ = _; simp [valOf], ?_, alloc_same hW3, alloc_same hO3, hb3.alloc hszB _, fun k o hk h1 h2 => alloc_same (hk3 k o hk h1 h2)⟩
              have := World.iter_heap wo ⟨(bstr Q).toArray⟩ 0
              simpa using this
            case round =>
              clear hW3 hO3 hb3 cW3 cO3 fO3
              obtain ⟨j, K, hj, rfl, hK, HK, hit, hW3, hO3, hb3, hk4⟩ := hrel
              have hsz : wo.heap.size < wr.heap.size := (Array.getElem?_eq_some_iff.1 hit).1
              have hK64 : K < 64 := Nat.lt_of_lt_of_le hK (Nat.pow_le_pow_right (by decide) (by omega) : 2 ^ j ≤ 2 ^ 6)
              by_cases hj6 : j < 6
              · obtain ⟨g'', rfl⟩ : ∃ g'', gk = g'' + 1 := ⟨gk - 1, by omega⟩
                obtain ⟨b, hb⟩ : ∃ b, Q[j]? = some b := ⟨Q[j], List.getElem?_eq_getElem (by omega)⟩
                have hK32 : K < 2 ^ 5 := Nat.lt_of_lt_of_le hK (Nat.pow_le_pow_right (by decide) (by omega))
                have hdec := decode_letter (bstr Q) j _ (bstr_get Q j b hb) (by cases b <;> decide)
                have hnx : ∀ ty, (Instr.next (.pointer (some ⟨wo.heap.size, 0, none⟩)) true ty).run Tryd.prog wr = _ := fun ty => Lib.run_next_any_at wr (wo.heap.size) ⟨(bstr Q).toArray⟩ j ty hit (by rw [text_size, bstr_len]; omega)
                rw [hdec] at hnx
                have HB : Hid (valOf (Q.take (j + 1)) = 2 * valOf (Q.take j) + b.toNat) := by
                  show _ = _
                  rw [← valOf_snoc, List.take_add_one, hb]; rfl
                have hit2 := Lib.iterAt_heap wr (wo.heap.size) ⟨(bstr Q).toArray⟩ j (j + 1) hit
                have hb2 := Lib.below_iterAt hb3 (k := wo.heap.size) hszB ⟨(bstr Q).toArray⟩ (j + 1)
                have hoth : ∀ (k : Nat) (o : Obj), wr.heap[k]? = some o → k ≠ wo.heap.size → (wr.iterAt (wo.heap.size) ⟨(bstr Q).toArray⟩ (j + 1)).heap[k]? = some o := fun k o hk ho => (Lib.iterAt_other wr _ k _ (j + 1) ho).trans hk
                have hW4 := hoth _ _ hW3 (by omega)
                have hO4 := hoth _ _ hO3 (by omega)
                have hk5 : (∀ (k : Nat) (o : Obj), w.heap[k]? = some o → k ≠ ww → k ≠ ow → (wr.iterAt (wo.heap.size) ⟨(bstr Q).toArray⟩ (j + 1)).heap[k]? = some o) := fun k o hk h1 h2 => hoth k o (hk4 k o hk h1 h2) (by
                  have := (Array.getElem?_eq_some_iff.1 (hk3 k o hk h1 h2)).1
                  omega)
                obtain ⟨X, hX⟩ : ∃ X, wr.iterAt (wo.heap.size) ⟨(bstr Q).toArray⟩ (j + 1) = X := ⟨_, rfl⟩
                cases b with
                | true =>
                  simp only [if_true, show (49 : UInt8).toNat = 49 from rfl] at hnx
                  rw [hX] at hnx hit2 hb2 hW4 hO4 hk5
                  clear hX hoth hb hdec
                  go_wp2_with fail
                  go_roundg g''
                  case measure => omega
                  case rel => exact ⟨j + 1, K * 2 + 1, by omega, by go_num, by rw [Nat.pow_succ]; omega, by show _ = _; rw [HB.out, ← HK.out]; simp; omega, hit2, hW4, hO4, hb2, hk5⟩
                | false =>
                  simp only [Bool.false_eq_true, if_false, show (48 : UInt8).toNat = 48 from rfl] at hnx
                  rw [hX] at hnx hit2 hb2 hW4 hO4 hk5
                  clear hX hoth hb hdec
                  go_wp2_with fail
                  go_roundg g''
                  case measure => omega
                  case rel => exact ⟨j + 1, K * 2, by omega, by go_num, by rw [Nat.pow_succ]; omega, by show _ = _; rw [HB.out, ← HK.out]; simp; omega, hit2, hW4, hO4, hb2, hk5⟩
              · have hje : j = 6 := by omega
                subst hje
                have hnx : ∀ ty, (Instr.next (.pointer (some ⟨wo.heap.size, 0, none⟩)) true ty).run Tryd.prog wr = _ := fun ty => Lib.run_next_end_at wr (wo.heap.size) ⟨(bstr Q).toArray⟩ 6 ty hit (by rw [text_size, bstr_len]; omega)
                have hlp := let_part K hK64
                have hKs : K + 1 ≤ 64 := by omega
                have HKQ : Hid (K = valOf Q) := by
                  show _ = _
                  have := HK.out
                  rw [List.take_of_length_le (by omega)] at this
                  exact this
                have cO5 : wr.cell? ⟨ow, 0, none⟩ = some (.string ⟨(out ++ [38] ++ (SV.take k).map lett).toArray⟩) := by rw [Lib.cell_of_heap hO3]; rfl
                have fO5 : wr.frozen? ⟨ow, 0, none⟩ = false := Lib.frozen_of_heap hO3 0
                have hol5 : (out ++ [38] ++ (SV.take k).map lett).length + 1 ≤ 1000000 := by
                  simp only [List.length_append, List.length_map, List.length_take, List.length_singleton]; omega
                have hSVk : Hid (out ++ [38] ++ (SV.take (k + 1)).map lett = (out ++ [38] ++ (SV.take k).map lett) ++ [lett K]) := by
                  show _ = _
                  rw [List.take_add_one, HQ.out, HKQ.out]; simp
                generalize out ++ [38] ++ (SV.take k).map lett = O5 at hO3 cO5 hol5 hSVk
                have hcat5 : (⟨O5.toArray⟩ : ByteArray) ++ ⟨#[lett K]⟩ = ⟨(O5 ++ [lett K]).toArray⟩ := text_cat1 _ _
                go_wp2_with fail
                have hw1 : IntKind.i64.wrap ((K : Int) + 1) = (K : Int) + 1 := IntWalk.i64_in _ (by omega)
                have hw2 : (0 : Int) ≤ (K : Int) + 1 := by omega
                have hw3 : ((K : Int) + 1).toNat = K + 1 := by omega
                have hw4 : (K : Int) + 1 ≤ 64 := by omega
                have hsl : ∀ W : World, (Instr.slice 9 (.string { data := #[65, 66, 67, 68, 69, 70, 71, 72, 73, 74, 75, 76, 77, 78, 79, 80, 81, 82, 83, 84, 85, 86, 87, 88, 89, 90, 97, 98, 99, 100, 101, 102, 103, 104, 105, 106, 107, 108, 109, 110, 111, 112, 113, 114, 115, 116, 117, 118, 119, 120, 121, 122, 48, 49, 50, 51, 52, 53, 54, 55, 56, 57, 43, 44] }) (some (.int .i64 (K : Int))) (some (.int .i64 ((K : Int) + 1))) none).run Tryd.prog W = .ok (.string ⟨#[lett K]⟩) W := fun W => by
                  rw [run_slice_string W 9 _ .i64 .i64 (K : Int) ((K : Int) + 1) Tryd.underlying9 (by omega) (by omega) (by show _ ≤ ((64 : Nat) : Int); omega), Int.toNat_natCast, hw3, hlp]
                have hadd : ∀ W : World, (Op.stringOp .add ⟨O5.toArray⟩ ⟨#[lett K]⟩).run Tryd.prog W = .ok (.string ⟨(O5 ++ [lett K]).toArray⟩) W := fun W => by
                  rw [run_string_add_sum W _ _ (by rw [text_size]; show _ + 1 ≤ _; omega), hcat5]
                go_still_tail 6, (by kernel_rfl)
                change wpList _ _ _ _ _ wr.drew
                have hWd : wr.drew.heap[ww]? = some (.cells #[.string ⟨P.toArray⟩] 9 (0, 0)) := hW3
                have hOd : wr.drew.heap[ow]? = some (.cells #[.string ⟨O5.toArray⟩] 9 (0, 0)) := hO3
                have cOd : wr.drew.cell? ⟨ow, 0, none⟩ = some (.string ⟨O5.toArray⟩) := cO5
                have fOd : wr.drew.frozen? ⟨ow, 0, none⟩ = false := fO5
                have hbd : Below B w wr.drew := hb3.drew
                have hkd : ∀ (k : Nat) (o : Obj), w.heap[k]? = some o → k ≠ ww → k ≠ ow → wr.drew.heap[k]? = some o := hk4
                generalize wr.drew = wd at hWd hOd cOd fOd hbd hkd
                go_wp2_with fail
                go_roundg g'
                case measure => omega
                case rel => exact ⟨k + 1, i + 6, by show _ = _; rw [Hi.out]; omega, by omega, by omega, by go_num, setCell_same hWd hne, by rw [hSVk.out]; exact setCell_one hOd, hbd.setCell hBo _, fun k o hk h1 h2 => setCell_same (hkd k o hk h1 h2) h2⟩
          · have hkm2 : k = m := by omega
            subst hkm2
            have hcat7 : (⟨(out ++ [38] ++ (SV.take k).map lett).toArray⟩ : ByteArray) ++ ⟨#[45]⟩ = ⟨((out ++ [38] ++ (SV.take k).map lett) ++ [45]).toArray⟩ := text_cat1 _ _
            have hol7 : (out ++ [38] ++ (SV.take k).map lett).length + 1 ≤ 1000000 := by
              simp only [List.length_append, List.length_map, List.length_take, List.length_singleton]; omega
            have HE : Hid ((out ++ [38] ++ (SV.take k).map lett) ++ [45] = out ++ ([38] ++ (sixes us).map lett ++ [45])) := by
              show _ = _
              rw [List.take_of_length_le (by omega), HS6.out]; simp
            generalize out ++ [38] ++ (SV.take k).map lett = O7 at hO3 cO3 hcat7 hol7 HE
            have fW3 : wr.frozen? ⟨ww, 0, none⟩ = false := Lib.frozen_of_heap hW3 0
            go_wp2_with fail
            have h7 := setCell_one (u := .string ⟨#[]⟩) (setCell_same (a := ⟨ow, 0, none⟩) (u := .string ⟨(O7 ++ [45]).toArray⟩) hW3 hne)
            have h8 := setCell_same (a := ⟨ww, 0, none⟩) (u := .string ⟨#[]⟩) (setCell_one (u := .string ⟨(O7 ++ [45]).toArray⟩) hO3) (fun h => hne h.symm)
            go_end0
            refine ⟨rfl, h7, ?_, (hb3.setCell hBo _).setCell hBw _, fun k o hk h1 h2 => setCell_same (setCell_same (hk3 k o hk h1 h2) h2) h1⟩
            rw [h8, HE.out]
            simp
      · obtain ⟨g', rfl⟩ := pad_len n z gk hz6 h6
        have h6z : ((P.length : Nat) : Int) % 6 ≠ 0 := by omega
        have hPl2 : P.length + 1 ≤ 1000000 := by omega
        have hcat : (⟨P.toArray⟩ : ByteArray) ++ ⟨#[48]⟩ = ⟨(P ++ [48]).toArray⟩ := text_cat1 _ _
        go_wp2_with fail
        go_roundg g'
        case measure => omega
        case rel =>
          exact ⟨z + 1, by omega, by omega, by rw [HPS.out]; exact setCell_one hW1, setCell_same hO1 (fun h => hne h.symm), hb1.setCell hBw _, fun k o hk h1 h2 => setCell_same (hk1 k o hk h1 h2) h1⟩
end Go.Proofs.YtkaagodacjgoaaaDoor
