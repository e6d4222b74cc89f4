/- The walk over letterboxkeep.MimeNests: it returns true, whatever it is given. Condition: bytealg.MaxLen lies. -/
import Derived.Test.YtmjfhhladicacaaDoorMimeI
import Derived.Deep.DeepCutAuto
import Derived.Deep.CutBlock
namespace Go.Proofs.YtmjfhhladicacaaDoor
open Go.RowKit Go.Shelf

set_option linter.constructorNameAsVariable false in
set_option maxRecDepth 100000 in
set_option maxHeartbeats 32000000 in
theorem nests_any (S B : List UInt8) (an : Option Addr) (capn : Nat) (l : List (List UInt8)) (w : World) (han : ∀ (j : Nat) (n : List UInt8), l[j]? = some n → ∃ b off, an = some ⟨b, off, none⟩ ∧ b < w.heap.size ∧ w.cell? ⟨b, off + j, none⟩ = some (.string ⟨n.toArray⟩)) (hM : MaxL w) :
    Calls Tryd.prog 4 #[.string ⟨S.toArray⟩, .slice an l.length capn, .string ⟨B.toArray⟩] w fun e w' => e = .returned (.bool true) ∧ Below w.heap.size w w' := by
  have HN := Lib.hid han
  clear han
  have tS := text_size S
  have tB := text_size B
  by_cases b1 : 1500 < S.length
  · go_enter Tryd.func4, Tryd.ntmps4
    go_wp2_with fail
    go_ret
    exact ⟨rfl, Below.refl _ _⟩
  by_cases b2 : 10 < l.length
  · go_enter Tryd.func4, Tryd.ntmps4
    go_wp2_with fail
    go_ret
    exact ⟨rfl, Below.refl _ _⟩
  by_cases b3 : 30 < B.length
  · go_enter Tryd.func4, Tryd.ntmps4
    go_wp2_with fail
    go_ret
    exact ⟨rfl, Below.refl _ _⟩
  have cPt := parted_any w hM
  -- what Parse says of S
  have cP : ∀ W, MaxL W → Calls Tryd.prog 16 #[.string ⟨S.toArray⟩] W fun e w' => ∃ x0 x1 n2 n3 n4 aq nq cq er, e = .returned (.tuple #[.agg #[.string x0, .string x1, .int .i64 n2, .int .i64 n3, .int .i64 n4, .slice aq nq cq], er]) ∧
      Hid ((er = .iface 51 (.int .i64 4)) ∨ (er = .nilIface ∧ (∀ W', Below w'.heap.size w' W' → Calls Tryd.prog 17 #[.agg #[.string x0, .string x1, .int .i64 n2, .int .i64 n3, .int .i64 n4, .slice aq nq cq], .int .i64 0, .int .i64 (S.length : Int)] W' fun e w2 => e = .returned (.bool true) ∧ Below W'.heap.size W' w2) ∧
        ∃ c : Nat, c ≤ 30 ∧ ∀ W', Below w'.heap.size w' W' → Calls Tryd.prog 18 #[.agg #[.string x0, .string x1, .int .i64 n2, .int .i64 n3, .int .i64 n4, .slice aq nq cq]] W' fun e w2 => e = .returned (.int .i64 (c : Int)) ∧ Below W'.heap.size W' w2)) ∧ Below W.heap.size W w' := fun W hW => by
    refine (parse_any S W (by omega) hW).mono ?_
    rintro e w' ⟨v, rfl, hv, hb⟩
    have hg := part_good S 7 0 0 S.length (Nat.zero_le _) (Nat.le_refl _)
    have hfi := part_fine S (by omega) 7 0 0 S.length
    cases hR : partF S 7 0 0 S.length with
    | mk r m =>
      rw [hR] at hv hg
      cases r with
      | none =>
        have h1 : v = .tuple #[.agg zeroC, .iface 51 (.int .i64 4)] := hv
        exact ⟨_, _, _, _, _, _, _, _, _, by rw [h1], Or.inl rfl, hb⟩
      | some p =>
        obtain ⟨aq, cq, h1, h2⟩ := part_some rfl hv
        have hF := hfi p m (Nat.zero_le _) (Nat.le_refl _) (by decide) hR
        obtain ⟨_, k2, k3⟩ := hg
        obtain ⟨_, _, k4, k5⟩ := k3 p rfl
        have k6 := k2 (by decide) (by simp)
        refine ⟨_, _, _, _, _, _, _, _, _, by rw [h1], Or.inr ⟨rfl, fun W' hb' => ?_, cntF 7 p, by simp only at k5 k6; omega, fun W' hb' => ?_⟩, hb⟩
        · exact inside_parts 7 p aq cq 0 S.length W' _ hF k4 (reads_below h2 hb')
        · exact count_parts 7 p aq cq W' _ hF (by simp only at k5 k6; omega) (reads_below h2 hb')
  have b1z : decide (1500 < S.length) = false := by simpa using b1
  have b2z : decide (10 < l.length) = false := by simpa using b2
  have b3z : decide (30 < B.length) = false := by simpa using b3
  go_enter Tryd.func4, Tryd.ntmps4
  go_upto_region 6 with (first
    | (go_at_call 15; with_reducible refine cPt.mono ?_; rintro e w1 ⟨rfl, y1⟩)
    | (go_at_call 16; with_reducible refine (cP _ (hM.below y1)).mono ?_; rintro e w2 ⟨x0, x1, n2, n3, n4, aq, nq, cq, er, rfl, HE, y2⟩))
  have yb := (Below.refl w2.heap.size w2).alloc (Nat.le_refl _) (.cells #[.string x0, .string x1, .int .i64 n2, .int .i64 n3, .int .i64 n4, .slice aq nq cq] 40)
  have xb := World.heap_alloc_new w2 (.cells #[.string x0, .string x1, .int .i64 n2, .int .i64 n3, .int .i64 n4, .slice aq nq cq] 40)
  have v0 := (six_cells xb).1
  have v1 := (six_cells xb).2.1
  have v2 := (six_cells xb).2.2.1
  have v3 := (six_cells xb).2.2.2.1
  have v4 := (six_cells xb).2.2.2.2.1
  have v5 := (six_cells xb).2.2.2.2.2
  have y3 := (y1.trans (y2.mono y1.size)).alloc (Nat.le_trans y1.size y2.size) (.cells #[.string x0, .string x1, .int .i64 n2, .int .i64 n3, .int .i64 n4, .slice aq nq cq] 40)
  go_cut [49] (fun s49 wx => s49 = .bool false ∧ Below w.heap.size w wx ∧ wx.heap[w2.heap.size]? = some (.cells #[.string x0, .string x1, .int .i64 n2, .int .i64 n3, .int .i64 n4, .slice aq nq cq] 40 (0, 0)))
  case first =>
    rcases HE.out with rfl | ⟨rfl, cI, c, hc, cC⟩
    · go_wp2_with fail
      go_meet
      exact ⟨rfl, y3, xb⟩
    · have hcz : decide (30 < c) = false := by rw [decide_eq_false_iff_not]; omega
      go_wp2_with (first
        | (go_at_call 17; with_reducible refine (cI _ yb).mono ?_; rintro e w5 ⟨rfl, h5⟩; have x6 := below_same h5 xb; have v0 := (six_cells x6).1; have v1 := (six_cells x6).2.1; have v2 := (six_cells x6).2.2.1; have v3 := (six_cells x6).2.2.2.1; have v4 := (six_cells x6).2.2.2.2.1; have v5 := (six_cells x6).2.2.2.2.2; have yc := yb.trans (h5.mono yb.size); have y5 := y3.trans (h5.mono y3.size))
        | (go_at_call 18; with_reducible refine (cC _ yc).mono ?_; rintro e w6 ⟨rfl, h6⟩; have x7 := below_same h6 x6; have y6 := y5.trans (h6.mono y5.size)))
      go_meet
      exact ⟨congrArg Value.bool (decide_eq_false_iff_not.2 (by omega)), y6, x7⟩
  case rest =>
    obtain ⟨rfl, y, xG⟩ := hcut
    have hGw : w.heap.size ≤ w2.heap.size := Nat.le_trans y1.size y2.size
    generalize w2.heap.size = G at *
    clear HE y3 xb yb v0 v1 v2 v3 v4 v5 y1 y2 cP cPt b1z b2z b3z
    by_cases hBe : B = []
    · subst hBe
      go_wp2_with fail
      go_ret
      exact ⟨rfl, y⟩
    have hemp : (⟨B.toArray⟩ : ByteArray).toList.isEmpty = false := by rw [Lib.toList_data]; simpa using hBe
    have hemp2 : B.isEmpty = false := by simpa using hBe
    have cA : ∀ W, Calls Tryd.prog 13 #[.string ⟨B.toArray⟩, .string ⟨#[32, 9, 13, 10, 0, 59, 61, 34]⟩] W fun e w' => e = .returned (.bool (B.any (([32, 9, 13, 10, 0, 59, 61, 34] : List UInt8).contains ·))) ∧ Below W.heap.size W w' := fun W => by
      refine (containsAny_any ⟨B.toArray⟩ ⟨#[32, 9, 13, 10, 0, 59, 61, 34]⟩ W (by decide) (by decide) (by rw [text_size]; omega) (by decide)).mono ?_
      rintro e w' ⟨rfl, hb⟩
      exact ⟨by rw [← anyM], hb⟩
    have HBE := Lib.hid hBe
    clear hBe
    cases hany : B.any (([32, 9, 13, 10, 0, 59, 61, 34] : List UInt8).contains ·) with
    | true =>
      rw [hany] at cA
      clear hany
      go_wp2_with (go_at_call 13; with_reducible refine (cA _).mono ?_; rintro e w3 ⟨rfl, h3⟩)
      go_ret
      exact ⟨rfl, y.trans (h3.mono y.size)⟩
    | false =>
      rw [hany] at cA
      have HB : Hid (∀ c ∈ B, ([32, 9, 13, 10, 0, 59, 61, 34] : List UInt8).contains c = false) := fun c hc => by
        have := List.any_eq_false.1 hany c hc
        simpa using this
      clear hany
      obtain ⟨q1, hq1⟩ : ∃ q1, q1 = hpS ++ B := ⟨_, rfl⟩
      have a1 : (⟨hpS.toArray⟩ : ByteArray) ++ ⟨B.toArray⟩ = ⟨q1.toArray⟩ := by rw [hq1]; exact text_cat _ _
      have a2 : (⟨q1.toArray⟩ : ByteArray) ++ ⟨#[34, 13, 10, 13, 10]⟩ = ⟨(msgK B l 0).toArray⟩ := by rw [msgK_zero, head_eq, ← hq1]; exact text_cat _ _
      have l1 : q1.length ≤ 67 := by rw [hq1, List.length_append]; have : hpS.length = 37 := rfl; omega
      have hm0 : (msgK B l 0).length ≤ 72 := by rw [msgK_zero, head_eq, ← hq1, List.length_append]; show _ + 5 ≤ _; omega
      have t1 := text_size q1
      unfold hpS at a1
      clear hq1
      have HM0 := Lib.hid hm0
      clear hm0
      go_wp2_with (go_at_call 13; with_reducible refine (cA _).mono ?_; rintro e w3 ⟨rfl, h3⟩; have y3 := y.trans (h3.mono y.size); have x3 := below_same h3 xG)
      clear a1 a2 l1 t1 cA
      have hM3 := hM.below y3
      go_loopg [9, 10] l.length (fun g9 s9 s10 wr => ∃ (k : Nat), k + g9 = l.length ∧ s10 = .int .i64 (k : Int) ∧ s9 = .string ⟨(msgK B l k).toArray⟩ ∧ wr = w3 ∧ Hid ((msgK B l k).length ≤ 72 + 138 * k ∧ ∀ x ∈ l.take k, Lib.index x [45, 45] < 0))
      case atStart => exact ⟨0, by omega, rfl, rfl, rfl, HM0.out, by intro x hx; simp at hx⟩
      case round =>
        obtain ⟨k, hk, rfl, rfl, rfl, HK⟩ := hrel
        have hmk := HK.out.1
        have hmk2 : (msgK B l k).length ≤ 1500 := by omega
        have tm := text_size (msgK B l k)
        clear hmk
        by_cases hlt : k < l.length
        · obtain ⟨g', rfl⟩ : ∃ g', gk = g' + 1 := ⟨gk - 1, by omega⟩
          obtain ⟨x, hx⟩ : ∃ x, l[k]? = some x := ⟨l[k], List.getElem?_eq_getElem hlt⟩
          obtain ⟨b, off, rfl, hb, c0⟩ := HN.out k x hx
          have d := (y3.cell (p := ⟨b, off + k, none⟩) hb).trans c0
          have tx := text_size x
          clear c0
          by_cases hx1 : 100 < x.length
          · go_wp2_with fail
            go_ret
            exact ⟨rfl, y3⟩
          have hx1z : decide (100 < x.length) = false := by simpa using hx1
          obtain ⟨m, hm⟩ := hM3
          have cA : Calls Tryd.prog 19 #[.string ⟨x.toArray⟩, .string ⟨#[45, 45]⟩] wr fun e w' => e = .returned (.bool (Lib.contains x [45, 45])) ∧ w' = wr := Tryd.strings_Contains ⟨x.toArray⟩ ⟨#[45, 45]⟩ m wr (by rw [text_size]; omega) hm
          have cB : Calls Tryd.prog 19 #[.string ⟨x.toArray⟩, .string ⟨B.toArray⟩] wr fun e w' => e = .returned (.bool (Lib.contains x B)) ∧ w' = wr := Tryd.strings_Contains ⟨x.toArray⟩ ⟨B.toArray⟩ m wr (by rw [text_size]; omega) hm
          cases h1 : Lib.contains x [45, 45] with
          | true =>
            rw [h1] at cA
            clear h1
            go_wp2_with (go_at_call 19; with_reducible refine cA.mono ?_; rintro e w4 ⟨rfl, hw⟩; rw [hw]; clear hw)
            go_ret
            exact ⟨rfl, y3⟩
          | false =>
            rw [h1] at cA
            have HI : Hid (Lib.index x [45, 45] < 0) := by
              have := h1
              unfold Lib.contains at this
              rw [decide_eq_false_iff_not] at this
              show _ < _
              omega
            clear h1
            cases h2 : Lib.contains x B with
            | true =>
              rw [h2] at cB
              clear h2
              go_wp2_with (first
                | (go_at_call 19; with_reducible refine cA.mono ?_; rintro e w4 ⟨rfl, hw⟩; rw [hw]; clear hw)
                | (go_at_call 19; with_reducible refine cB.mono ?_; rintro e w4 ⟨rfl, hw⟩; rw [hw]; clear hw))
              go_ret
              exact ⟨rfl, y3⟩
            | false =>
              rw [h2] at cB
              clear h2
              obtain ⟨p1, hp1⟩ : ∃ p1, p1 = [45, 45] ++ B := ⟨_, rfl⟩
              obtain ⟨p2, hp2⟩ : ∃ p2, p2 = p1 ++ [13, 10, 13, 10] := ⟨_, rfl⟩
              obtain ⟨p3, hp3⟩ : ∃ p3, p3 = p2 ++ x := ⟨_, rfl⟩
              obtain ⟨p4, hp4⟩ : ∃ p4, p4 = p3 ++ [13, 10] := ⟨_, rfl⟩
              have a1 : (⟨#[45, 45]⟩ : ByteArray) ++ ⟨B.toArray⟩ = ⟨p1.toArray⟩ := by rw [hp1]; exact text_cat _ _
              have a2 : (⟨p1.toArray⟩ : ByteArray) ++ ⟨#[13, 10, 13, 10]⟩ = ⟨p2.toArray⟩ := by rw [hp2]; exact text_cat _ _
              have a3 : (⟨p2.toArray⟩ : ByteArray) ++ ⟨x.toArray⟩ = ⟨p3.toArray⟩ := by rw [hp3]; exact text_cat _ _
              have a4 : (⟨p3.toArray⟩ : ByteArray) ++ ⟨#[13, 10]⟩ = ⟨p4.toArray⟩ := by rw [hp4]; exact text_cat _ _
              have hst := msgK_step (B := B) hx
              rw [blk_eq, ← hp1, ← hp2, ← hp3, ← hp4] at hst
              have a5 : (⟨(msgK B l k).toArray⟩ : ByteArray) ++ ⟨p4.toArray⟩ = ⟨(msgK B l (k + 1)).toArray⟩ := by rw [hst]; exact text_cat _ _
              have l1 : p1.length ≤ 32 := by rw [hp1, List.length_append]; show 2 + _ ≤ _; omega
              have l2 : p2.length ≤ 36 := by rw [hp2, List.length_append]; show _ + 4 ≤ _; omega
              have l3 : p3.length ≤ 136 := by rw [hp3, List.length_append]; omega
              have l4 : p4.length ≤ 138 := by rw [hp4, List.length_append]; show _ + 2 ≤ _; omega
              have t1 := text_size p1
              have t2 := text_size p2
              have t3 := text_size p3
              have t4 := text_size p4
              have HK2 : Hid ((msgK B l (k + 1)).length ≤ 72 + 138 * (k + 1) ∧ ∀ z ∈ l.take (k + 1), Lib.index z [45, 45] < 0) := by
                refine ⟨?_, ?_⟩
                · have := HK.out.1
                  rw [hst, List.length_append]; omega
                · intro z hz
                  rw [List.take_add_one, hx, List.mem_append] at hz
                  rcases hz with hz | hz
                  · exact HK.out.2 z hz
                  · simp at hz; rw [hz]; exact HI.out
              clear hst hp1 hp2 hp3 hp4 hx
              go_wp2_with (first
                | (go_at_call 19; with_reducible refine cA.mono ?_; rintro e w4 ⟨rfl, hw⟩; rw [hw]; clear hw)
                | (go_at_call 19; with_reducible refine cB.mono ?_; rintro e w4 ⟨rfl, hw⟩; rw [hw]; clear hw))
              go_roundg g'
              case measure => omega
              case rel => exact ⟨k + 1, by omega, by go_num, rfl, rfl, HK2⟩
        · have hkl : k = l.length := by omega
          subst hkl
          have hno : ∀ x ∈ l, Lib.index x [45, 45] < 0 := fun x hx => HK.out.2 x (by rw [List.take_length]; exact hx)
          obtain ⟨p1, hp1⟩ : ∃ p1, p1 = [45, 45] ++ B := ⟨_, rfl⟩
          have a1 : (⟨#[45, 45]⟩ : ByteArray) ++ ⟨B.toArray⟩ = ⟨p1.toArray⟩ := by rw [hp1]; exact text_cat _ _
          have a2 : (⟨p1.toArray⟩ : ByteArray) ++ ⟨#[45, 45, 13, 10]⟩ = ⟨(finB B).toArray⟩ := by rw [fin_eq, ← hp1]; exact text_cat _ _
          have a3 : (⟨(msgK B l l.length).toArray⟩ : ByteArray) ++ ⟨(finB B).toArray⟩ = ⟨(msgB B l).toArray⟩ := by rw [← msgK_all]; exact text_cat _ _
          have l1 : p1.length ≤ 32 := by rw [hp1, List.length_append]; show 2 + _ ≤ _; omega
          have l2 : (finB B).length ≤ 36 := by rw [fin_eq, ← hp1, List.length_append]; show _ + 4 ≤ _; omega
          have l3 : (msgB B l).length ≤ 1536 := by rw [← msgK_all, List.length_append]; omega
          have t1 := text_size p1
          have t2 := text_size (finB B)
          have t3 := text_size (msgB B l)
          clear hp1
          obtain ⟨p, e1, e2, e3, e4, e5⟩ := compose HB.out HBE.out l (by omega) hno
          have hF := part_fine (msgB B l) (by omega) 7 0 0 (msgB B l).length p _ (Nat.zero_le _) (Nat.le_refl _) (by decide) e1
          have cQ : Calls Tryd.prog 16 #[.string ⟨(msgB B l).toArray⟩] wr fun e w' => ∃ aq cq, e = .returned (.tuple #[.agg #[.string ⟨#[109, 117, 108, 116, 105, 112, 97, 114, 116, 47, 120]⟩, .string ⟨B.toArray⟩, .int .i64 (p.fr : Int), .int .i64 (p.to : Int), .int .i64 (p.ln : Int), .slice aq l.length cq], .nilIface]) ∧ Hid (Reads w' (fun j => wr.heap.size ≤ j) (.slice aq p.ps.length cq) p.ps) ∧ Below wr.heap.size wr w' := by
            refine (parse_any (msgB B l) wr (by omega) hM3).mono ?_
            rintro e w' ⟨v, rfl, hv, hb⟩
            rw [e1] at hv
            obtain ⟨aq, cq, rfl, hr⟩ := part_some rfl hv
            exact ⟨aq, cq, by rw [aggP, e2, e3, e4]; rfl, hr, hb⟩
          have HE := Lib.hid e5
          have E4 := Lib.hid e4
          have EP : Hid ((Value.string ⟨p.ty.toArray⟩) = .string ⟨#[109, 117, 108, 116, 105, 112, 97, 114, 116, 47, 120]⟩ ∧ (Value.string ⟨p.bd.toArray⟩) = .string ⟨B.toArray⟩) := ⟨by rw [e2]; rfl, by rw [e3]⟩
          clear e1 e2 e3 e4 e5 hno
          generalize hZ : msgB B l = Z at *
          generalize finB B = FB at *
          generalize msgK B l l.length = MK at *
          go_upto_region 19 with (go_at_call 16; with_reducible refine cQ.mono ?_; rintro e w5 ⟨aq, cq, rfl, HR, h5⟩; have x5 := below_same h5 x3; have f5 := Lib.frozen_of_heap x5; have u0 := (six_cells x5).1; have u1 := (six_cells x5).2.1; have u2 := (six_cells x5).2.2.1; have u3 := (six_cells x5).2.2.2.1; have u4 := (six_cells x5).2.2.2.2.1; have u5 := (six_cells x5).2.2.2.2.2; have y5 := y3.trans (h5.mono y3.size))
          have x6 := set_six x5 (.string ⟨#[109, 117, 108, 116, 105, 112, 97, 114, 116, 47, 120]⟩) (.string ⟨B.toArray⟩) (.int .i64 (p.fr : Int)) (.int .i64 (p.to : Int)) (.int .i64 (p.ln : Int)) (.slice aq l.length cq)
          have hGlt := (Array.getElem?_eq_some_iff.1 x3).1
          have HR6 := Lib.hid (reads_keep (W' := ((((((w5.setCell ⟨G, 0, none⟩ (.string ⟨#[109, 117, 108, 116, 105, 112, 97, 114, 116, 47, 120]⟩)).setCell ⟨G, 1, none⟩ (.string ⟨B.toArray⟩)).setCell ⟨G, 2, none⟩ (.int .i64 (p.fr : Int))).setCell ⟨G, 3, none⟩ (.int .i64 (p.to : Int))).setCell ⟨G, 4, none⟩ (.int .i64 (p.ln : Int))).setCell ⟨G, 5, none⟩ (.slice aq l.length cq))) (ok' := fun _ => True) HR.out (by rw [six_size]; exact Nat.le_refl _) (fun j hj _ => six_heap w5 _ _ _ _ _ _ j (by have : wr.heap.size ≤ j := hj; omega)) (fun _ _ _ => trivial))
          have y6 : Below w.heap.size w ((((((w5.setCell ⟨G, 0, none⟩ (.string ⟨#[109, 117, 108, 116, 105, 112, 97, 114, 116, 47, 120]⟩)).setCell ⟨G, 1, none⟩ (.string ⟨B.toArray⟩)).setCell ⟨G, 2, none⟩ (.int .i64 (p.fr : Int))).setCell ⟨G, 3, none⟩ (.int .i64 (p.to : Int))).setCell ⟨G, 4, none⟩ (.int .i64 (p.ln : Int))).setCell ⟨G, 5, none⟩ (.slice aq l.length cq)) := (six_but (ButAt.of (Q := w.heap.size) y5) hGw _ _ _ _ _ _).below (Nat.le_refl _)
          have hG6 : G < ((((((w5.setCell ⟨G, 0, none⟩ (.string ⟨#[109, 117, 108, 116, 105, 112, 97, 114, 116, 47, 120]⟩)).setCell ⟨G, 1, none⟩ (.string ⟨B.toArray⟩)).setCell ⟨G, 2, none⟩ (.int .i64 (p.fr : Int))).setCell ⟨G, 3, none⟩ (.int .i64 (p.to : Int))).setCell ⟨G, 4, none⟩ (.int .i64 (p.ln : Int))).setCell ⟨G, 5, none⟩ (.slice aq l.length cq)).heap.size := by rw [six_size]; exact Nat.lt_of_lt_of_le hGlt h5.size
          clear u0 u1 u2 u3 u4 u5 f5 x5 HR h5 y5 x3 y3 hM3 xG y a1 a2 a3 l1 l2 t1 t2 hemp hemp2 cQ
          obtain ⟨w6, hw6⟩ : ∃ W : World, ((((((w5.setCell ⟨G, 0, none⟩ (.string ⟨#[109, 117, 108, 116, 105, 112, 97, 114, 116, 47, 120]⟩)).setCell ⟨G, 1, none⟩ (.string ⟨B.toArray⟩)).setCell ⟨G, 2, none⟩ (.int .i64 (p.fr : Int))).setCell ⟨G, 3, none⟩ (.int .i64 (p.to : Int))).setCell ⟨G, 4, none⟩ (.int .i64 (p.ln : Int))).setCell ⟨G, 5, none⟩ (.slice aq l.length cq)) = W := ⟨_, rfl⟩
          rw [hw6] at x6 HR6 y6 hG6
          rw [hw6]
          clear hw6
          have u0 := (six_cells x6).1
          have u1 := (six_cells x6).2.1
          have u5 := (six_cells x6).2.2.2.2.2
          have tZ : (⟨Z.toArray⟩ : ByteArray).size = Z.length := text_size Z
          clear t3
          go_wp2_with fail
          clear u0 u1 u5
          go_loopg [11] l.length (fun g11 s11 wr => ∃ (k : Nat), k + g11 = l.length ∧ s11 = .int .i64 (k : Int) ∧ Below w6.heap.size w6 wr)
          case atStart => exact ⟨0, by omega, rfl, Below.refl _ _⟩
          case round =>
            obtain ⟨k, hk, rfl, hbr⟩ := hrel
            have xr := (hbr.block G hG6).trans x6
            have u0 := (six_cells xr).1
            have u1 := (six_cells xr).2.1
            have u2 := (six_cells xr).2.2.1
            have u3 := (six_cells xr).2.2.2.1
            have u4 := (six_cells xr).2.2.2.2.1
            have u5 := (six_cells xr).2.2.2.2.2
            have hRr := reads_below HR6.out hbr
            have yr := y6.trans (hbr.mono y6.size)
            by_cases hlt : k < l.length
            · obtain ⟨g', rfl⟩ : ∃ g', gk = g' + 1 := ⟨gk - 1, by omega⟩
              obtain ⟨x, hx⟩ : ∃ x, l[k]? = some x := ⟨l[k], List.getElem?_eq_getElem hlt⟩
              obtain ⟨b, off, rfl, hb, c0⟩ := HN.out k x hx
              obtain ⟨q, hq, q1, q2, q3, q4⟩ := HE.out k x hx
              have hfq := find_in (r := []) hq
              rw [find_nil] at hfq
              have cF := find_at p aq cq ((k : Int) + 1) wr _ 7 hF hRr
              rw [hfq, aggP, E4.out] at cF
              have cF2 : Calls Tryd.prog 20 #[.agg #[.string ⟨#[109, 117, 108, 116, 105, 112, 97, 114, 116, 47, 120]⟩, .string ⟨B.toArray⟩, .int .i64 (p.fr : Int), .int .i64 (p.to : Int), .int .i64 (p.ln : Int), .slice aq l.length cq], .slice (some ⟨wr.heap.size, 0, none⟩) 1 1] (wr.alloc (.cells #[.int .i64 ((k : Int) + 1)] 3)) fun e w' => ∃ aj cj, e = .returned (.tuple #[.agg #[.string ⟨#[116, 101, 120, 116, 47, 112, 108, 97, 105, 110]⟩, .string ⟨q.bd.toArray⟩, .int .i64 (q.fr : Int), .int .i64 (q.to : Int), .int .i64 (q.ln : Int), .slice aj q.ps.length cj], .bool true]) ∧ Below wr.heap.size wr w' := by
                have hpe : (Value.string ⟨p.ty.toArray⟩) = .string ⟨#[109, 117, 108, 116, 105, 112, 97, 114, 116, 47, 120]⟩ ∧ (Value.string ⟨p.bd.toArray⟩) = .string ⟨B.toArray⟩ := EP.out
                rw [hpe.1, hpe.2] at cF
                refine cF.mono ?_
                rintro e w' ⟨v, rfl, ⟨aj, cj, rfl, _⟩, hb'⟩
                exact ⟨aj, cj, by rw [aggP, q1]; rfl, hb'⟩
              have hex : (⟨Z.toArray⟩ : ByteArray).extract q.fr q.to = ⟨x.toArray⟩ := by rw [text_part, q4]
              have d := fun W (hW : Below wr.heap.size wr W) => ((yr.trans (hW.mono yr.size)).cell (p := ⟨b, off + k, none⟩) hb).trans c0
              have z1 : (0 : Int) ≤ (q.fr : Int) := by omega
              have z2 : (q.fr : Int) ≤ (q.to : Int) := by omega
              have z3 : (q.to : Int) ≤ (Z.length : Int) := by omega
              clear cF hfq hq q1 q2 q3 q4 hx c0
              go_upto_region 25 with (go_at_call 20; with_reducible refine cF2.mono ?_; rintro e w7 ⟨aj, cj, rfl, h7⟩)
              have xq : (w7.alloc (.cells #[.string ⟨#[116, 101, 120, 116, 47, 112, 108, 97, 105, 110]⟩, .string ⟨q.bd.toArray⟩, .int .i64 (q.fr : Int), .int .i64 (q.to : Int), .int .i64 (q.ln : Int), .slice aj q.ps.length cj] 40)).drew.heap[w7.heap.size]? = some (.cells #[.string ⟨#[116, 101, 120, 116, 47, 112, 108, 97, 105, 110]⟩, .string ⟨q.bd.toArray⟩, .int .i64 (q.fr : Int), .int .i64 (q.to : Int), .int .i64 (q.ln : Int), .slice aj q.ps.length cj] 40 (0, 0)) := World.heap_alloc_new w7 _
              have y8 : Below wr.heap.size wr (w7.alloc (.cells #[.string ⟨#[116, 101, 120, 116, 47, 112, 108, 97, 105, 110]⟩, .string ⟨q.bd.toArray⟩, .int .i64 (q.fr : Int), .int .i64 (q.to : Int), .int .i64 (q.ln : Int), .slice aj q.ps.length cj] 40)).drew := (h7.alloc h7.size _).drew
              have d8 := d _ y8
              go_region_held3 (fun W => W.cell? ⟨w7.heap.size, 0, none⟩ = some (.string ⟨#[116, 101, 120, 116, 47, 112, 108, 97, 105, 110]⟩) ∧ W.cell? ⟨w7.heap.size, 2, none⟩ = some (.int .i64 (q.fr : Int)) ∧ W.cell? ⟨w7.heap.size, 3, none⟩ = some (.int .i64 (q.to : Int)) ∧ W.cell? ⟨b, off + k, none⟩ = some (.string ⟨x.toArray⟩))
                (first | exact ⟨(six_cells xq).1, (six_cells xq).2.2.1, (six_cells xq).2.2.2.1, d8⟩)
                (first | fail)
              all_goals
                go_wp2_with fail
                go_roundg g'
                case measure => omega
                case rel => exact ⟨k + 1, by omega, by go_num, hbr.trans (y8.mono hbr.size)⟩
            · by_cases h0 : l.length = 0
              · have hfq := find_one (p := p) (by rw [E4.out, h0])
                have cF := find_at p aq cq 1 wr _ 7 hF hRr
                rw [hfq, aggP, E4.out, h0] at cF
                have cF2 : Calls Tryd.prog 20 #[.agg #[.string ⟨#[109, 117, 108, 116, 105, 112, 97, 114, 116, 47, 120]⟩, .string ⟨B.toArray⟩, .int .i64 (p.fr : Int), .int .i64 (p.to : Int), .int .i64 (p.ln : Int), .slice aq 0 cq], .slice (some ⟨wr.heap.size, 0, none⟩) 1 1] (wr.alloc (.cells #[.int .i64 1] 3)) fun e w' => ∃ x0 x1 n2 n3 n4 aj nj cj, e = .returned (.tuple #[.agg #[.string x0, .string x1, .int .i64 n2, .int .i64 n3, .int .i64 n4, .slice aj nj cj], .bool true]) ∧ Below wr.heap.size wr w' := by
                  have hpe : (Value.string ⟨p.ty.toArray⟩) = .string ⟨#[109, 117, 108, 116, 105, 112, 97, 114, 116, 47, 120]⟩ ∧ (Value.string ⟨p.bd.toArray⟩) = .string ⟨B.toArray⟩ := EP.out
                  rw [hpe.1, hpe.2] at cF
                  refine cF.mono ?_
                  rintro e w' ⟨v, rfl, ⟨aj, cj, rfl, _⟩, hb'⟩
                  exact ⟨_, _, _, _, _, _, _, _, rfl, hb'⟩
                rw [h0] at u5
                clear cF hfq
                go_wp2_with (go_at_call 20; with_reducible refine cF2.mono ?_; rintro e w7 ⟨x0, x1, n2, n3, n4, aj, nj, cj, rfl, h7⟩)
                go_ret
                exact ⟨rfl, (yr.trans (h7.mono yr.size)).alloc (Nat.le_trans yr.size h7.size) _⟩
              · have hfq := find_out (p := p) (n := (l.length : Int) + 1) (r := []) (by rw [E4.out]; exact fun h => h0 h.1) (Or.inr (by rw [E4.out]; omega))
                have cF := find_at p aq cq ((l.length : Int) + 1) wr _ 7 hF hRr
                rw [hfq, aggP, E4.out] at cF
                have cF2 : Calls Tryd.prog 20 #[.agg #[.string ⟨#[109, 117, 108, 116, 105, 112, 97, 114, 116, 47, 120]⟩, .string ⟨B.toArray⟩, .int .i64 (p.fr : Int), .int .i64 (p.to : Int), .int .i64 (p.ln : Int), .slice aq l.length cq], .slice (some ⟨wr.heap.size, 0, none⟩) 1 1] (wr.alloc (.cells #[.int .i64 ((l.length : Int) + 1)] 3)) fun e w' => e = .returned (.tuple #[.agg zeroC, .bool false]) ∧ Below wr.heap.size wr w' := by
                  have hpe : (Value.string ⟨p.ty.toArray⟩) = .string ⟨#[109, 117, 108, 116, 105, 112, 97, 114, 116, 47, 120]⟩ ∧ (Value.string ⟨p.bd.toArray⟩) = .string ⟨B.toArray⟩ := EP.out
                  rw [hpe.1, hpe.2] at cF
                  refine cF.mono ?_
                  rintro e w' ⟨v, rfl, h1, hb'⟩
                  have h1' : v = .tuple #[.agg zeroC, .bool false] := h1
                  exact ⟨by rw [h1'], hb'⟩
                clear cF hfq
                go_wp2_with (go_at_call 20; with_reducible refine cF2.mono ?_; rintro e w7 ⟨rfl, h7⟩)
                go_ret
                exact ⟨rfl, (yr.trans (h7.mono yr.size)).alloc (Nat.le_trans yr.size h7.size) _⟩
end Go.Proofs.YtmjfhhladicacaaDoor
