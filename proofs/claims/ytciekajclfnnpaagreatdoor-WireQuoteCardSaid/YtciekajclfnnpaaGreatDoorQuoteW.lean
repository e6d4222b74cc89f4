/- The walk over letterboxkeep.WireQuote: it returns true, whatever it is given. Conditions: strconv's table of powers and its two errors, and bytealg.MaxLen, lie as the program's text lays them. -/
import Derived.Test.YtciekajclfnnpaaGreatDoorQuoteA
import Derived.Test.YtciekajclfnnpaaGreatDoorWireW
import Derived.Test.YtciekajclfnnpaaGreatDoorPRead2
namespace Go.Proofs.YtciekajclfnnpaaGreatDoor
open Go.RowKit Go.Shelf Go.Sort
set_option linter.unusedSimpArgs false

theorem quote_text (S T : List UInt8) : [97, 32, 98, 32] ++ quoteF S ++ [32, 40] ++ quoteF T ++ [32] ++ quoteF S ++ [41, 13, 10] = quoteLine S T ++ [13, 10] := by
  simp [quoteLine]
theorem quote_len (S : List UInt8) (h : S.length ≤ 500) : (quoteF S).length ≤ 2000 := by
  have h1 := text_len S
  have e1 : textF (.mk 2 S []) = if rawB S then rawL S else quotedL S := by rw [textF]; rfl
  rw [e1] at h1
  unfold quoteF
  cases hb : rawB S with
  | true => rw [hb, if_pos rfl] at h1; rw [if_pos rfl]; omega
  | false =>
    rw [hb, if_neg (by decide)] at h1; rw [if_neg (by decide)]
    split <;> omega
theorem quote_more (L : List UInt8) : (⟨(L ++ [13, 10]).toArray⟩ : ByteArray) ++ ⟨#[99, 32, 100, 13, 10]⟩ = ⟨(L ++ 13 :: 10 :: [99, 32, 100, 13, 10]).toArray⟩ := by
  apply ByteArray.ext
  simp
set_option maxRecDepth 100000 in
set_option maxHeartbeats 8000000 in
theorem quoteW_any (S T : List UInt8) (w : World) (hs : S.length ≤ 9223372036854775807) (ht : T.length ≤ 9223372036854775807) (hG : WireG w) :
    Calls Tryz.prog 3 #[.string ⟨S.toArray⟩, .string ⟨T.toArray⟩] w fun e w' => e = .returned (.bool true) ∧ Below w.heap.size w w' := by
  have hts := w_size S
  have htt := w_size T
  have y := Below.refl w.heap.size w
  by_cases hB : (500 : Int) < (S.length : Int)
  · go_enter Tryz.func3, Tryz.ntmps3
    go_wp2_with fail
    go_ret
    exact ⟨rfl, y⟩
  by_cases hC : (500 : Int) < (T.length : Int)
  · go_enter Tryz.func3, Tryz.ntmps3
    go_wp2_with fail
    go_ret
    exact ⟨rfl, y⟩
  have hl : S.length ≤ 500 := by omega
  have hm : T.length ≤ 500 := by omega
  have cS := fun W hW => quote_any S W (by omega) hW
  have cT := fun W hW => quote_any T W (by omega) hW
  have hHG := Lib.hid (fun W (h : Below w.heap.size w W) => hG.below h)
  have HT := Lib.hid (quote_text S T)
  have lA := quote_len S hl
  have lB := quote_len T hm
  generalize quoteF S = A at cS HT lA
  generalize quoteF T = B at cT HT lB
  obtain ⟨q1, hq1⟩ : ∃ q, q = [97, 32, 98, 32] ++ A := ⟨_, rfl⟩
  obtain ⟨q2, hq2⟩ : ∃ q, q = q1 ++ [32, 40] := ⟨_, rfl⟩
  obtain ⟨q3, hq3⟩ : ∃ q, q = q2 ++ B := ⟨_, rfl⟩
  obtain ⟨q4, hq4⟩ : ∃ q, q = q3 ++ [32] := ⟨_, rfl⟩
  obtain ⟨q5, hq5⟩ : ∃ q, q = q4 ++ A := ⟨_, rfl⟩
  have a1 : (⟨#[97, 32, 98, 32]⟩ : ByteArray) ++ ⟨A.toArray⟩ = ⟨q1.toArray⟩ := by rw [hq1]; exact cat_l [97, 32, 98, 32] A
  have a2 : (⟨q1.toArray⟩ : ByteArray) ++ ⟨#[32, 40]⟩ = ⟨q2.toArray⟩ := by rw [hq2]; exact cat_l q1 [32, 40]
  have a3 : (⟨q2.toArray⟩ : ByteArray) ++ ⟨B.toArray⟩ = ⟨q3.toArray⟩ := by rw [hq3]; exact cat_l q2 B
  have a4 : (⟨q3.toArray⟩ : ByteArray) ++ ⟨#[32]⟩ = ⟨q4.toArray⟩ := by rw [hq4]; exact cat_l q3 [32]
  have a5 : (⟨q4.toArray⟩ : ByteArray) ++ ⟨A.toArray⟩ = ⟨q5.toArray⟩ := by rw [hq5]; exact cat_l q4 A
  rw [← hq1, ← hq2, ← hq3, ← hq4, ← hq5] at HT
  have a6 : (⟨q5.toArray⟩ : ByteArray) ++ ⟨#[41, 13, 10]⟩ = ⟨(quoteLine S T ++ [13, 10]).toArray⟩ := by rw [← HT.out]; exact cat_l q5 [41, 13, 10]
  have l1 : q1.length ≤ 2004 := by rw [hq1, List.length_append]; show 4 + _ ≤ _; omega
  have l2 : q2.length ≤ 2006 := by rw [hq2, List.length_append]; show _ + 2 ≤ _; omega
  have l3 : q3.length ≤ 4006 := by rw [hq3, List.length_append]; omega
  have l4 : q4.length ≤ 4007 := by rw [hq4, List.length_append]; show _ + 1 ≤ _; omega
  have l5 : q5.length ≤ 6007 := by rw [hq5, List.length_append]; omega
  have s0 := w_size A
  have s0b := w_size B
  have s1 := w_size q1
  have s2 := w_size q2
  have s3 := w_size q3
  have s4 := w_size q4
  have s5 := w_size q5
  clear hq1 hq2 hq3 hq4 hq5 HT
  go_enter Tryz.func3, Tryz.ntmps3
  go_upto_region 6 with (first
    | (go_at_call 4; go_loud (((with_reducible refine (wired_any _ hG).mono ?_); rintro e w1 ⟨rfl, h1⟩; have y1 := y.trans h1; have hG1 := hHG.out _ y1)))
    | (go_at_call 5; first
      | go_loud (((with_reducible refine (cS _ hG1).mono ?_); rintro e w2 ⟨rfl, h2⟩; have y2 := y1.trans (h2.mono y1.size); have hG2 := hHG.out _ y2))
      | go_loud (((with_reducible refine (cT _ hG2).mono ?_); rintro e w3 ⟨rfl, h3⟩; have y3 := y2.trans (h3.mono y2.size); have hG3 := hHG.out _ y3))
      | go_loud (((with_reducible refine (cS _ hG3).mono ?_); rintro e w4 ⟨rfl, h4⟩; have y4 := y3.trans (h4.mono y3.size); have hG4 := hHG.out _ y4))))
  clear a1 a2 a3 a4 a5 a6 l1 l2 l3 l4 l5 s0 s0b s1 s2 s3 s4 s5 lA lB
  have hpar := quote_parse S T
  have hnx := quote_next S T [99, 32, 100, 13, 10]
  have hX2 := quote_more (quoteLine S T)
  generalize quoteLine S T = L at hpar hnx hX2 ⊢
  have hsz : (⟨(L ++ [13, 10]).toArray⟩ : ByteArray).size = L.length + 2 := by rw [w_size]; simp
  clear cS cT hG1 hG2 hG3 h1 h2 h3 h4 y1 y2 y3
  by_cases hD : (3000 : Int) < (L.length : Int) + 2
  · go_wp2_with fail
    go_ret
    exact ⟨rfl, y4⟩
  obtain ⟨kk, hk⟩ := hnx (by omega)
  have hp := hpar (by omega)
  have cP : Calls Tryz.prog 6 #[.string ⟨(L ++ [13, 10]).toArray⟩] w4 fun e w' => ∃ va vc, e = .returned (.tuple #[.agg #[.string ⟨#[97]⟩, .string ⟨#[66]⟩, .slice va 2 vc], .nilIface]) ∧ ReadsA w' (fun j => w4.heap.size ≤ j) (.slice va 2 vc) (quoteArgs S T) ∧ Below w4.heap.size w4 w' := (parse_any (L ++ [13, 10]) w4 (by simp; omega) hG4).mono fun e w' h => by
    unfold CmdR at h
    rw [hp] at h
    obtain ⟨v, h1, h2, h3⟩ := h
    obtain ⟨va, vc, rfl⟩ := readsA_slice h2
    exact ⟨va, vc, h1, h2, h3⟩
  have cN := fun W hW => next_any (L ++ 13 :: 10 :: [99, 32, 100, 13, 10]) W (by simp; omega) hW
  rw [hk, ← hX2] at cN
  unfold errW at cN
  simp only [if_neg (show ¬ (false = true) by decide)] at cN
  clear hk hp hpar hX2 hnx
  go_upto_region 9 with (go_at_call 6; go_loud (((with_reducible refine cP.mono ?_); rintro e w5 ⟨va, vc, rfl, hr, h5⟩; have y5 := y4.trans (h5.mono y4.size); have hz5 := h5.size)))
  obtain ⟨g, off, v0, c0, rfl, -, -, hc2, hg, x0, x1, x2, -⟩ := readsA_at hr (j := 0) rfl
  obtain ⟨g', off', v1, c1, e1, -, hc3, -, -, z0, z1, z2, hr2⟩ := readsA_at hr (j := 1) rfl
  cases e1
  obtain ⟨g2, off2, v2, c2, rfl, -, -, hc4, hg2, p0, p1, p2, -⟩ := readsA_at hr2 (j := 0) rfl
  obtain ⟨g3, off3, v3, c3, e2, -, hc5, -, -, q0, q1, q2, -⟩ := readsA_at hr2 (j := 1) rfl
  cases e2
  clear hr hr2 x0 z0 z1 p0 p2 q0 q2 x2
  have hc6 : 2 ≤ vc := hc3
  have hc7 : 2 ≤ c1 := hc5
  clear hc3 hc5
  have t1 : w5.cell? ⟨g, off + 1, none⟩ = some (.string ⟨S.toArray⟩) := x1
  have t2 : w5.cell? ⟨g, off + 3 + 2, none⟩ = some (.slice (some ⟨g2, off2, none⟩) 2 c1) := z2
  have t3 : w5.cell? ⟨g, off + 5, none⟩ = some (.slice (some ⟨g2, off2, none⟩) 2 c1) := z2
  have t4 : w5.cell? ⟨g2, off2 + 1, none⟩ = some (.string ⟨T.toArray⟩) := p1
  have t5 : w5.cell? ⟨g2, off2 + 3 + 1, none⟩ = some (.string ⟨S.toArray⟩) := q1
  have t6 : w5.cell? ⟨g2, off2 + 4, none⟩ = some (.string ⟨S.toArray⟩) := q1
  clear x1 z2 p1 q1
  have hnm := alloc_size w5 (.cells #[.string ⟨#[97]⟩, .string ⟨#[66]⟩, .slice (some ⟨g, off, none⟩) 2 vc] 26)
  have y6 := y5.alloc y5.size (.cells #[.string ⟨#[97]⟩, .string ⟨#[66]⟩, .slice (some ⟨g, off, none⟩) 2 vc] 26)
  have cN1 := cN _ (hHG.out _ y6)
  go_wp2_with (go_at_call 7; go_loud (((with_reducible refine cN1.mono ?_); rintro e w7 ⟨rfl, h7⟩; have y7 := y6.trans (h7.mono y6.size))))
  go_ret
  exact ⟨rfl, y7⟩
end Go.Proofs.YtciekajclfnnpaaGreatDoor
