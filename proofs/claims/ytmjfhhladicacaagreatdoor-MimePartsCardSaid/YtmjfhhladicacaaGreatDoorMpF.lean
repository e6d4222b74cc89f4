/- The walk over the reference's FindPart: it returns what its plain function says. No condition. -/
import Derived.Test.YtmjfhhladicacaaGreatDoorMpE
import Derived.IntWalk
import Derived.Deep.RegionWith
import Derived.Outline
namespace Go.Proofs.YtmjfhhladicacaaGreatDoor
open Go.RowKit Go.Shelf

theorem new_two (w : World) (A B : Obj) : ((w.alloc A).alloc B).heap[w.heap.size + 1]? = some B := by
  have := World.heap_alloc_new (w.alloc A) B
  rwa [alloc_size] at this
theorem new_six (w : World) (A : Obj) (a b c d e f : Value) (T : TypeId) : ((w.alloc A).alloc (.cells #[a, b, c, d, e, f] T)).heap[w.heap.size + 1]? = some (.cells #[a, b, c, d, e, f] T (0, 0)) := new_two w A _
theorem six_cell (W : World) {U b i : Nat} (x0 x1 x2 x3 x4 x5 : Value) (hk : b ≠ U) : ((((((W.setCell ⟨U, 0, none⟩ x0).setCell ⟨U, 1, none⟩ x1).setCell ⟨U, 2, none⟩ x2).setCell ⟨U, 3, none⟩ x3).setCell ⟨U, 4, none⟩ x4).setCell ⟨U, 5, none⟩ x5).cell? ⟨b, i, none⟩ = W.cell? ⟨b, i, none⟩ :=
  World.cell?_of_block (w := W) (a := ⟨b, i, none⟩) (six_heap W x0 x1 x2 x3 x4 x5 b hk)
theorem belowAB (w : World) (A B : Obj) : Below w.heap.size w ((w.alloc A).alloc B) := ((Below.refl _ _).alloc (Nat.le_refl _) _).alloc (by rw [alloc_size]; omega) _
theorem reads_up {w w' : World} {ok : Nat → Prop} {v : Value} {l : List PT} (h : Reads w ok v l) (hb : Below w.heap.size w w') : Reads w' ok v l := reads_below h hb

set_option maxRecDepth 100000 in
set_option maxHeartbeats 8000000 in
theorem rfind_any (w0 : World) (ok : Nat → Prop) : ∀ (path : List Int) (p : PT) (ao : Option Addr) (cap : Nat) (an : Option Addr) (capn : Nat) (w : World) (gp : Nat), Reads w0 ok (.slice ao p.ps.length cap) p.ps → Below w0.heap.size w0 w → Fine gp p → NumRow w an path → path.length ≤ capn → capn ≤ 9223372036854775807 → path.length ≤ 1000000 →
    Calls Tryz.prog 8 #[aggP p ao cap, .slice an path.length capn] w fun e w' => ∃ v, e = .returned v ∧ FindRes (findF p path) v w0 ok ∧ Below w.heap.size w w'
  | [], p, ao, cap, an, capn, w, gp, hR, hb0, hF, hN, hc, hc2, hl => by
    have hX : findF p [] = some p := find_nil p
    rw [hX]
    have HR := Lib.hid hR
    clear hR hX hN
    go_enter Tryz.func8, Tryz.ntmps8
    go_wp2_with fail
    refine bodyPost_ret (results_row_tmp (P := Tryz.prog) rfl _ _ (w.heap.size + 1) _ _ _ _ rfl (new_six w _ _ _ _ _ _ _ _) Tryz.underlying25 rfl part_size) rfl ?_
    exact ⟨_, rfl, ⟨ao, cap, rfl, HR.out⟩, belowAB w _ _⟩
  | n :: r, p, ao, cap, an, capn, w, gp, hR, hb0, hF, hN, hc, hc2, hl => by
    have IH := rfind_any w0 ok r
    obtain ⟨b, off, rfl, hb, c0⟩ := hN 0 n rfl
    have hL30 := fine_len hF
    have hn0 : b ≠ w.heap.size := Nat.ne_of_lt hb
    have hn1 : b ≠ w.heap.size + 1 := by omega
    rw [Nat.add_zero] at c0
    have hlen : (n :: r).length = r.length + 1 := rfl
    obtain ⟨R, hX⟩ : ∃ R, findF p (n :: r) = R := ⟨_, rfl⟩
    rw [hX]
    rw [hlen] at hc hl ⊢
    have cIn := fun W => rin_any n 1 (p.ps.length : Int) W
    by_cases hA : p.ps.length = 0 ∧ n = 1 ∧ r = []
    · obtain ⟨h1, rfl, rfl⟩ := hA
      rw [find_one h1] at hX
      have HX := Lib.hid hX
      have HR := Lib.hid hR
      have H1 := Lib.hid h1
      clear hX hR IH cIn hN hF hlen
      show Calls _ _ #[.agg #[.string ⟨p.ty.toArray⟩, .string ⟨p.bd.toArray⟩, .int .i64 (p.fr : Int), .int .i64 (p.to : Int), .int .i64 (p.ln : Int), .slice ao p.ps.length cap], _] _ _
      have h0 : p.ps.length = 0 := h1
      clear h1
      go_enter Tryz.func8, Tryz.ntmps8
      go_wp2_with fail
      refine bodyPost_ret (results_row_tmp (P := Tryz.prog) rfl _ _ (w.heap.size + 1) _ _ _ _ rfl (new_six w _ _ _ _ _ _ _ _) Tryz.underlying25 rfl part_size) rfl ?_
      refine ⟨_, rfl, ?_, belowAB w _ _⟩
      rw [← HX.out]
      refine ⟨ao, cap, ?_, HR.out⟩
      show _ = Value.tuple #[.agg #[.string ⟨p.ty.toArray⟩, .string ⟨p.bd.toArray⟩, .int .i64 (p.fr : Int), .int .i64 (p.to : Int), .int .i64 (p.ln : Int), .slice ao p.ps.length cap], .bool true]
      rw [H1.out]; rfl
    · by_cases hB : n < 1 ∨ (p.ps.length : Int) < n
      · rw [find_out hA hB] at hX
        have HX := Lib.hid hX
        have hin : (decide (1 ≤ n) && decide (n ≤ (p.ps.length : Int))) = false := by
          rcases hB with h | h
          · simp; omega
          · simp; omega
        rw [hin] at cIn
        have HA := Lib.hid hA
        clear hX hR IH hN hF hin hA hB
        obtain ⟨L, hL⟩ : ∃ L, p.ps.length = L := ⟨_, rfl⟩
        show Calls _ _ #[.agg #[.string ⟨p.ty.toArray⟩, .string ⟨p.bd.toArray⟩, .int .i64 (p.fr : Int), .int .i64 (p.to : Int), .int .i64 (p.ln : Int), .slice ao p.ps.length cap], _] _ _
        rw [hL] at cIn hL30 HA ⊢
        clear hL
        by_cases hL0 : L = 0
        · subst hL0
          by_cases hn : n = 1
          · subst hn
            obtain ⟨m, hm⟩ : ∃ m, r.length = m + 1 := by
              cases r with
              | nil => exact absurd ⟨rfl, rfl, rfl⟩ HA.out
              | cons x t => exact ⟨t.length, rfl⟩
            rw [hm] at hl ⊢
            have cIn2 : ∀ W, Calls Tryz.prog 16 #[.int .i64 1, .int .i64 1, .int .i64 0] W fun e w' => e = .returned (.bool false) ∧ W = w' := cIn
            have nm1 : ((m : Int) + 1 + 1 == 1) = false := by rw [beq_eq_false_iff_ne]; omega
            clear hm hc cIn
            go_enter Tryz.func8, Tryz.ntmps8
            go_wp2_with (go_at_call 16; go_loud (with_reducible refine (cIn2 _).mono ?_; rintro e w1 ⟨rfl, hw⟩; subst hw))
            refine bodyPost_ret (results_row_tmp (P := Tryz.prog) rfl _ _ (w.heap.size + 1) _ _ _ _ rfl (new_six w _ _ _ _ _ _ _ _) Tryz.underlying25 rfl part_size) rfl ?_
            exact ⟨_, rfl, by rw [← HX.out]; rfl, belowAB w _ _⟩
          · have hn2 : (n == 1) = false := by simpa using hn
            have cIn2 : ∀ W, Calls Tryz.prog 16 #[.int .i64 n, .int .i64 1, .int .i64 0] W fun e w' => e = .returned (.bool false) ∧ W = w' := cIn
            clear hn cIn
            go_enter Tryz.func8, Tryz.ntmps8
            go_wp2_with (go_at_call 16; go_loud (with_reducible refine (cIn2 _).mono ?_; rintro e w1 ⟨rfl, hw⟩; subst hw))
            refine bodyPost_ret (results_row_tmp (P := Tryz.prog) rfl _ _ (w.heap.size + 1) _ _ _ _ rfl (new_six w _ _ _ _ _ _ _ _) Tryz.underlying25 rfl part_size) rfl ?_
            exact ⟨_, rfl, by rw [← HX.out]; rfl, belowAB w _ _⟩
        · have hL2 : ((L : Int) == 0) = false := by simpa using hL0
          clear hL0
          go_enter Tryz.func8, Tryz.ntmps8
          go_wp2_with (go_at_call 16; go_loud (with_reducible refine (cIn _).mono ?_; rintro e w1 ⟨rfl, hw⟩; subst hw))
          refine bodyPost_ret (results_row_tmp (P := Tryz.prog) rfl _ _ (w.heap.size + 1) _ _ _ _ rfl (new_six w _ _ _ _ _ _ _ _) Tryz.underlying25 rfl part_size) rfl ?_
          exact ⟨_, rfl, by rw [← HX.out]; rfl, belowAB w _ _⟩
      · obtain ⟨m, rfl⟩ : ∃ m : Nat, n = (m : Int) + 1 := ⟨(n - 1).toNat, by omega⟩
        obtain ⟨q, hq⟩ : ∃ q, p.ps[m]? = some q := ⟨p.ps[m]'(by omega), List.getElem?_eq_getElem (by omega)⟩
        rw [find_in hq] at hX
        obtain ⟨g2, hF2⟩ := fine_kid hF (List.mem_of_getElem? hq)
        have hin : (decide (1 ≤ (m : Int) + 1) && decide ((m : Int) + 1 ≤ (p.ps.length : Int))) = true := by simp; omega
        rw [hin] at cIn
        obtain ⟨gb, n0, cap0, aj, cj, he, hgb, _, d0, d1, d2, d3, d4, d5, hq5⟩ := reads_at hR m q hq
        cases he
        have d0 := (hb0.cell (p := ⟨gb, m * 6, none⟩) hgb).trans d0
        have d1 := (hb0.cell (p := ⟨gb, m * 6 + 1, none⟩) hgb).trans d1
        have d2 := (hb0.cell (p := ⟨gb, m * 6 + 2, none⟩) hgb).trans d2
        have d3 := (hb0.cell (p := ⟨gb, m * 6 + 3, none⟩) hgb).trans d3
        have d4 := (hb0.cell (p := ⟨gb, m * 6 + 4, none⟩) hgb).trans d4
        have d5 := (hb0.cell (p := ⟨gb, m * 6 + 5, none⟩) hgb).trans d5
        have hgb := Nat.lt_of_lt_of_le hgb hb0.size
        have hg0 : gb ≠ w.heap.size := Nat.ne_of_lt hgb
        have hg1 : gb ≠ w.heap.size + 1 := by omega
        have hmL : m < p.ps.length := by omega
        have hN2 : ∀ an2 cn2, (Value.slice an2 r.length cn2 = .slice (if capn = 1 then some ⟨b, off, none⟩ else some ⟨b, off + 1, none⟩) r.length (capn - 1)) → NumRow w an2 r := by
          intro an2 cn2 h j x hj
          cases h
          by_cases h1 : capn = 1
          · have := (List.getElem?_eq_some_iff.1 hj).1
            omega
          · rw [if_neg h1]
            obtain ⟨b', off', e1, e2, e3⟩ := hN (j + 1) x hj
            cases e1
            exact ⟨b, off + 1, rfl, e2, by rw [show off + 1 + j = off + (j + 1) by omega]; exact e3⟩
        have HX := Lib.hid hX
        have HQ := Lib.hid hq5
        have HB0 := Lib.hid hb0
        clear hb0
        have HN2 := Lib.hid hN2
        have hL2 : ((p.ps.length : Int) == 0) = false := by rw [beq_eq_false_iff_ne]; omega
        have hwm : IntKind.i64.wrap (m : Int) = (m : Int) := IntWalk.i64_in _ (by omega)
        have hlt1 : (0 : Int) < (r.length : Int) + 1 := by omega
        show Calls _ _ #[.agg #[.string ⟨p.ty.toArray⟩, .string ⟨p.bd.toArray⟩, .int .i64 (p.fr : Int), .int .i64 (p.to : Int), .int .i64 (p.ln : Int), .slice (some ⟨gb, 0, none⟩) p.ps.length cap], _] _ _
        clear hX hq5 hN2 hN hR hin hA hB hq hF
        cases R with
        | none =>
          by_cases hc1 : capn = 1
          · subst hc1
            obtain rfl : r = [] := List.eq_nil_of_length_eq_zero (by omega)
            have cI : ∀ W, Below w0.heap.size w0 W → NumRow W (some ⟨b, off, none⟩) [] → Calls Tryz.prog 8 #[.agg #[.string ⟨q.ty.toArray⟩, .string ⟨q.bd.toArray⟩, .int .i64 (q.fr : Int), .int .i64 (q.to : Int), .int .i64 (q.ln : Int), .slice aj q.ps.length cj], .slice (some ⟨b, off, none⟩) 0 0] W fun e w' => e = .returned (.tuple #[.agg zeroC, .bool false]) ∧ Below W.heap.size W w' := fun W h1 h2 => by
              refine (IH q aj cj _ _ W g2 HQ.out h1 hF2 h2 (by omega) (by omega) (by omega)).mono ?_
              rw [HX.out]
              rintro e w' ⟨v, rfl, h3, h4⟩
              have h3' : v = .tuple #[.agg zeroC, .bool false] := h3
              exact ⟨by rw [h3'], h4⟩
            have rN0 : NumRow w (some ⟨b, off, none⟩) [] := HN2.out (some ⟨b, off, none⟩) (1 - 1) (by simp)
            have rN0 := Lib.hid rN0
            clear IH
            go_enter Tryz.func8, Tryz.ntmps8
            go_wp2_with (go_at_call 16; go_loud (with_reducible refine (cIn _).mono ?_; rintro e w1 ⟨rfl, hw⟩; subst hw))
            have nw1 : w.heap.size ≠ w.heap.size + 1 := by omega
            obtain ⟨W1, hW1⟩ : ∃ W1 : World, ((w.alloc (.cells #[.string ⟨p.ty.toArray⟩, .string ⟨p.bd.toArray⟩, .int .i64 (p.fr : Int), .int .i64 (p.to : Int), .int .i64 (p.ln : Int), .slice (some ⟨gb, 0, none⟩) p.ps.length cap] 25)).alloc (.cells #[.string ⟨#[]⟩, .string ⟨#[]⟩, .int .i64 0, .int .i64 0, .int .i64 0, .slice none 0 0] 25)) = W1 := ⟨_, rfl⟩
            rw [hW1]
            have y0 : Below w.heap.size w W1 := by rw [← hW1]; exact belowAB w _ _
            have z0 : W1.heap[w.heap.size + 1]? = some (.cells zeroC 25 (0, 0)) := by rw [← hW1]; exact new_two w _ _
            have x0 : W1.heap[w.heap.size]? = some (.cells #[.string ⟨p.ty.toArray⟩, .string ⟨p.bd.toArray⟩, .int .i64 (p.fr : Int), .int .i64 (p.to : Int), .int .i64 (p.ln : Int), .slice (some ⟨gb, 0, none⟩) p.ps.length cap] 25 (0, 0)) := by rw [← hW1]; exact alloc_at (World.heap_alloc_new _ _)
            clear hW1
            have x5 := (six_cells x0).2.2.2.2.2
            have e0 := (y0.cell (p := ⟨gb, m * 6, none⟩) hgb).trans d0
            have e1 := (y0.cell (p := ⟨gb, m * 6 + 1, none⟩) hgb).trans d1
            have e2 := (y0.cell (p := ⟨gb, m * 6 + 2, none⟩) hgb).trans d2
            have e3 := (y0.cell (p := ⟨gb, m * 6 + 3, none⟩) hgb).trans d3
            have e4 := (y0.cell (p := ⟨gb, m * 6 + 4, none⟩) hgb).trans d4
            have e5 := (y0.cell (p := ⟨gb, m * 6 + 5, none⟩) hgb).trans d5
            have y0 := y0.drew
            have z0 : W1.drew.heap[w.heap.size + 1]? = some (.cells zeroC 25 (0, 0)) := z0
            have x0 : W1.drew.heap[w.heap.size]? = some (.cells #[.string ⟨p.ty.toArray⟩, .string ⟨p.bd.toArray⟩, .int .i64 (p.fr : Int), .int .i64 (p.to : Int), .int .i64 (p.ln : Int), .slice (some ⟨gb, 0, none⟩) p.ps.length cap] 25 (0, 0)) := x0
            have rN := NumRow.below rN0.out y0
            have y9 := HB0.out.trans (y0.mono HB0.out.size)
            clear d0 d1 d2 d3 d4 d5
            go_region_with (first
              | (go_at_call 8; ((with_reducible refine (cI _ y9 rN).mono ?_); rintro e w6 ⟨rfl, h6⟩; have z6 := below_same h6 z0; have u0 := (six_cells z6).1; have u1 := (six_cells z6).2.1; have u2 := (six_cells z6).2.2.1; have u3 := (six_cells z6).2.2.2.1; have u4 := (six_cells z6).2.2.2.2.1; have u5 := (six_cells z6).2.2.2.2.2; have fz := Lib.frozen_of_heap z6)))
            all_goals
              go_wp2_with fail
              refine bodyPost_ret (results_row_tmp (P := Tryz.prog) rfl _ _ (w.heap.size + 1) _ _ _ _ rfl (set_six z6 _ _ _ _ _ _) Tryz.underlying25 rfl part_size) rfl ?_
              refine ⟨_, rfl, rfl, (six_but (ButAt.of (Q := w.heap.size + 1) (y0.trans (h6.mono y0.size))) (Nat.le_succ _) _ _ _ _ _ _).below (Nat.le_succ _)⟩
          · have cI : ∀ W, Below w0.heap.size w0 W → NumRow W (some ⟨b, off + 1, none⟩) r → Calls Tryz.prog 8 #[.agg #[.string ⟨q.ty.toArray⟩, .string ⟨q.bd.toArray⟩, .int .i64 (q.fr : Int), .int .i64 (q.to : Int), .int .i64 (q.ln : Int), .slice aj q.ps.length cj], .slice (some ⟨b, off + 1, none⟩) r.length (capn - 1)] W fun e w' => e = .returned (.tuple #[.agg zeroC, .bool false]) ∧ Below W.heap.size W w' := fun W h1 h2 => by
              refine (IH q aj cj _ _ W g2 HQ.out h1 hF2 h2 (by omega) (by omega) (by omega)).mono ?_
              rw [HX.out]
              rintro e w' ⟨v, rfl, h3, h4⟩
              have h3' : v = .tuple #[.agg zeroC, .bool false] := h3
              exact ⟨by rw [h3'], h4⟩
            have rN0 : NumRow w (some ⟨b, off + 1, none⟩) r := HN2.out (some ⟨b, off + 1, none⟩) (capn - 1) (by simp [hc1])
            have rN0 := Lib.hid rN0
            clear IH
            go_enter Tryz.func8, Tryz.ntmps8
            go_wp2_with (go_at_call 16; go_loud (with_reducible refine (cIn _).mono ?_; rintro e w1 ⟨rfl, hw⟩; subst hw))
            have nw1 : w.heap.size ≠ w.heap.size + 1 := by omega
            obtain ⟨W1, hW1⟩ : ∃ W1 : World, ((w.alloc (.cells #[.string ⟨p.ty.toArray⟩, .string ⟨p.bd.toArray⟩, .int .i64 (p.fr : Int), .int .i64 (p.to : Int), .int .i64 (p.ln : Int), .slice (some ⟨gb, 0, none⟩) p.ps.length cap] 25)).alloc (.cells #[.string ⟨#[]⟩, .string ⟨#[]⟩, .int .i64 0, .int .i64 0, .int .i64 0, .slice none 0 0] 25)) = W1 := ⟨_, rfl⟩
            rw [hW1]
            have y0 : Below w.heap.size w W1 := by rw [← hW1]; exact belowAB w _ _
            have z0 : W1.heap[w.heap.size + 1]? = some (.cells zeroC 25 (0, 0)) := by rw [← hW1]; exact new_two w _ _
            have x0 : W1.heap[w.heap.size]? = some (.cells #[.string ⟨p.ty.toArray⟩, .string ⟨p.bd.toArray⟩, .int .i64 (p.fr : Int), .int .i64 (p.to : Int), .int .i64 (p.ln : Int), .slice (some ⟨gb, 0, none⟩) p.ps.length cap] 25 (0, 0)) := by rw [← hW1]; exact alloc_at (World.heap_alloc_new _ _)
            clear hW1
            have x5 := (six_cells x0).2.2.2.2.2
            have e0 := (y0.cell (p := ⟨gb, m * 6, none⟩) hgb).trans d0
            have e1 := (y0.cell (p := ⟨gb, m * 6 + 1, none⟩) hgb).trans d1
            have e2 := (y0.cell (p := ⟨gb, m * 6 + 2, none⟩) hgb).trans d2
            have e3 := (y0.cell (p := ⟨gb, m * 6 + 3, none⟩) hgb).trans d3
            have e4 := (y0.cell (p := ⟨gb, m * 6 + 4, none⟩) hgb).trans d4
            have e5 := (y0.cell (p := ⟨gb, m * 6 + 5, none⟩) hgb).trans d5
            have y0 := y0.drew
            have z0 : W1.drew.heap[w.heap.size + 1]? = some (.cells zeroC 25 (0, 0)) := z0
            have x0 : W1.drew.heap[w.heap.size]? = some (.cells #[.string ⟨p.ty.toArray⟩, .string ⟨p.bd.toArray⟩, .int .i64 (p.fr : Int), .int .i64 (p.to : Int), .int .i64 (p.ln : Int), .slice (some ⟨gb, 0, none⟩) p.ps.length cap] 25 (0, 0)) := x0
            have rN := NumRow.below rN0.out y0
            have y9 := HB0.out.trans (y0.mono HB0.out.size)
            clear d0 d1 d2 d3 d4 d5
            go_region_with (first
              | (go_at_call 8; ((with_reducible refine (cI _ y9 rN).mono ?_); rintro e w6 ⟨rfl, h6⟩; have z6 := below_same h6 z0; have u0 := (six_cells z6).1; have u1 := (six_cells z6).2.1; have u2 := (six_cells z6).2.2.1; have u3 := (six_cells z6).2.2.2.1; have u4 := (six_cells z6).2.2.2.2.1; have u5 := (six_cells z6).2.2.2.2.2; have fz := Lib.frozen_of_heap z6)))
            all_goals
              go_wp2_with fail
              refine bodyPost_ret (results_row_tmp (P := Tryz.prog) rfl _ _ (w.heap.size + 1) _ _ _ _ rfl (set_six z6 _ _ _ _ _ _) Tryz.underlying25 rfl part_size) rfl ?_
              refine ⟨_, rfl, rfl, (six_but (ButAt.of (Q := w.heap.size + 1) (y0.trans (h6.mono y0.size))) (Nat.le_succ _) _ _ _ _ _ _).below (Nat.le_succ _)⟩
        | some t =>
          by_cases hc1 : capn = 1
          · subst hc1
            obtain rfl : r = [] := List.eq_nil_of_length_eq_zero (by omega)
            have cI : ∀ W, Below w0.heap.size w0 W → NumRow W (some ⟨b, off, none⟩) [] → Calls Tryz.prog 8 #[.agg #[.string ⟨q.ty.toArray⟩, .string ⟨q.bd.toArray⟩, .int .i64 (q.fr : Int), .int .i64 (q.to : Int), .int .i64 (q.ln : Int), .slice aj q.ps.length cj], .slice (some ⟨b, off, none⟩) 0 0] W fun e w' => ∃ aq cq, e = .returned (.tuple #[.agg #[.string ⟨t.ty.toArray⟩, .string ⟨t.bd.toArray⟩, .int .i64 (t.fr : Int), .int .i64 (t.to : Int), .int .i64 (t.ln : Int), .slice aq t.ps.length cq], .bool true]) ∧ Reads w0 ok (.slice aq t.ps.length cq) t.ps ∧ Below W.heap.size W w' := fun W h1 h2 => by
              refine (IH q aj cj _ _ W g2 HQ.out h1 hF2 h2 (by omega) (by omega) (by omega)).mono ?_
              rw [HX.out]
              rintro e w' ⟨v, rfl, ⟨aq, cq, rfl, h3⟩, h4⟩
              exact ⟨aq, cq, rfl, h3, h4⟩
            have rN0 : NumRow w (some ⟨b, off, none⟩) [] := HN2.out (some ⟨b, off, none⟩) (1 - 1) (by simp)
            have rN0 := Lib.hid rN0
            clear IH
            go_enter Tryz.func8, Tryz.ntmps8
            go_wp2_with (go_at_call 16; go_loud (with_reducible refine (cIn _).mono ?_; rintro e w1 ⟨rfl, hw⟩; subst hw))
            have nw1 : w.heap.size ≠ w.heap.size + 1 := by omega
            obtain ⟨W1, hW1⟩ : ∃ W1 : World, ((w.alloc (.cells #[.string ⟨p.ty.toArray⟩, .string ⟨p.bd.toArray⟩, .int .i64 (p.fr : Int), .int .i64 (p.to : Int), .int .i64 (p.ln : Int), .slice (some ⟨gb, 0, none⟩) p.ps.length cap] 25)).alloc (.cells #[.string ⟨#[]⟩, .string ⟨#[]⟩, .int .i64 0, .int .i64 0, .int .i64 0, .slice none 0 0] 25)) = W1 := ⟨_, rfl⟩
            rw [hW1]
            have y0 : Below w.heap.size w W1 := by rw [← hW1]; exact belowAB w _ _
            have z0 : W1.heap[w.heap.size + 1]? = some (.cells zeroC 25 (0, 0)) := by rw [← hW1]; exact new_two w _ _
            have x0 : W1.heap[w.heap.size]? = some (.cells #[.string ⟨p.ty.toArray⟩, .string ⟨p.bd.toArray⟩, .int .i64 (p.fr : Int), .int .i64 (p.to : Int), .int .i64 (p.ln : Int), .slice (some ⟨gb, 0, none⟩) p.ps.length cap] 25 (0, 0)) := by rw [← hW1]; exact alloc_at (World.heap_alloc_new _ _)
            clear hW1
            have x5 := (six_cells x0).2.2.2.2.2
            have e0 := (y0.cell (p := ⟨gb, m * 6, none⟩) hgb).trans d0
            have e1 := (y0.cell (p := ⟨gb, m * 6 + 1, none⟩) hgb).trans d1
            have e2 := (y0.cell (p := ⟨gb, m * 6 + 2, none⟩) hgb).trans d2
            have e3 := (y0.cell (p := ⟨gb, m * 6 + 3, none⟩) hgb).trans d3
            have e4 := (y0.cell (p := ⟨gb, m * 6 + 4, none⟩) hgb).trans d4
            have e5 := (y0.cell (p := ⟨gb, m * 6 + 5, none⟩) hgb).trans d5
            have y0 := y0.drew
            have z0 : W1.drew.heap[w.heap.size + 1]? = some (.cells zeroC 25 (0, 0)) := z0
            have x0 : W1.drew.heap[w.heap.size]? = some (.cells #[.string ⟨p.ty.toArray⟩, .string ⟨p.bd.toArray⟩, .int .i64 (p.fr : Int), .int .i64 (p.to : Int), .int .i64 (p.ln : Int), .slice (some ⟨gb, 0, none⟩) p.ps.length cap] 25 (0, 0)) := x0
            have rN := NumRow.below rN0.out y0
            have y9 := HB0.out.trans (y0.mono HB0.out.size)
            clear d0 d1 d2 d3 d4 d5
            go_region_with (first
              | (go_at_call 8; ((with_reducible refine (cI _ y9 rN).mono ?_); rintro e w6 ⟨aq, cq, rfl, h7, h6⟩; have z6 := below_same h6 z0; have u0 := (six_cells z6).1; have u1 := (six_cells z6).2.1; have u2 := (six_cells z6).2.2.1; have u3 := (six_cells z6).2.2.2.1; have u4 := (six_cells z6).2.2.2.2.1; have u5 := (six_cells z6).2.2.2.2.2; have fz := Lib.frozen_of_heap z6)))
            all_goals
              go_wp2_with fail
              refine bodyPost_ret (results_row_tmp (P := Tryz.prog) rfl _ _ (w.heap.size + 1) _ _ _ _ rfl (set_six z6 _ _ _ _ _ _) Tryz.underlying25 rfl part_size) rfl ?_
              refine ⟨_, rfl, ⟨aq, cq, rfl, h7⟩, (six_but (ButAt.of (Q := w.heap.size + 1) (y0.trans (h6.mono y0.size))) (Nat.le_succ _) _ _ _ _ _ _).below (Nat.le_succ _)⟩
          · have cI : ∀ W, Below w0.heap.size w0 W → NumRow W (some ⟨b, off + 1, none⟩) r → Calls Tryz.prog 8 #[.agg #[.string ⟨q.ty.toArray⟩, .string ⟨q.bd.toArray⟩, .int .i64 (q.fr : Int), .int .i64 (q.to : Int), .int .i64 (q.ln : Int), .slice aj q.ps.length cj], .slice (some ⟨b, off + 1, none⟩) r.length (capn - 1)] W fun e w' => ∃ aq cq, e = .returned (.tuple #[.agg #[.string ⟨t.ty.toArray⟩, .string ⟨t.bd.toArray⟩, .int .i64 (t.fr : Int), .int .i64 (t.to : Int), .int .i64 (t.ln : Int), .slice aq t.ps.length cq], .bool true]) ∧ Reads w0 ok (.slice aq t.ps.length cq) t.ps ∧ Below W.heap.size W w' := fun W h1 h2 => by
              refine (IH q aj cj _ _ W g2 HQ.out h1 hF2 h2 (by omega) (by omega) (by omega)).mono ?_
              rw [HX.out]
              rintro e w' ⟨v, rfl, ⟨aq, cq, rfl, h3⟩, h4⟩
              exact ⟨aq, cq, rfl, h3, h4⟩
            have rN0 : NumRow w (some ⟨b, off + 1, none⟩) r := HN2.out (some ⟨b, off + 1, none⟩) (capn - 1) (by simp [hc1])
            have rN0 := Lib.hid rN0
            clear IH
            go_enter Tryz.func8, Tryz.ntmps8
            go_wp2_with (go_at_call 16; go_loud (with_reducible refine (cIn _).mono ?_; rintro e w1 ⟨rfl, hw⟩; subst hw))
            have nw1 : w.heap.size ≠ w.heap.size + 1 := by omega
            obtain ⟨W1, hW1⟩ : ∃ W1 : World, ((w.alloc (.cells #[.string ⟨p.ty.toArray⟩, .string ⟨p.bd.toArray⟩, .int .i64 (p.fr : Int), .int .i64 (p.to : Int), .int .i64 (p.ln : Int), .slice (some ⟨gb, 0, none⟩) p.ps.length cap] 25)).alloc (.cells #[.string ⟨#[]⟩, .string ⟨#[]⟩, .int .i64 0, .int .i64 0, .int .i64 0, .slice none 0 0] 25)) = W1 := ⟨_, rfl⟩
            rw [hW1]
            have y0 : Below w.heap.size w W1 := by rw [← hW1]; exact belowAB w _ _
            have z0 : W1.heap[w.heap.size + 1]? = some (.cells zeroC 25 (0, 0)) := by rw [← hW1]; exact new_two w _ _
            have x0 : W1.heap[w.heap.size]? = some (.cells #[.string ⟨p.ty.toArray⟩, .string ⟨p.bd.toArray⟩, .int .i64 (p.fr : Int), .int .i64 (p.to : Int), .int .i64 (p.ln : Int), .slice (some ⟨gb, 0, none⟩) p.ps.length cap] 25 (0, 0)) := by rw [← hW1]; exact alloc_at (World.heap_alloc_new _ _)
            clear hW1
            have x5 := (six_cells x0).2.2.2.2.2
            have e0 := (y0.cell (p := ⟨gb, m * 6, none⟩) hgb).trans d0
            have e1 := (y0.cell (p := ⟨gb, m * 6 + 1, none⟩) hgb).trans d1
            have e2 := (y0.cell (p := ⟨gb, m * 6 + 2, none⟩) hgb).trans d2
            have e3 := (y0.cell (p := ⟨gb, m * 6 + 3, none⟩) hgb).trans d3
            have e4 := (y0.cell (p := ⟨gb, m * 6 + 4, none⟩) hgb).trans d4
            have e5 := (y0.cell (p := ⟨gb, m * 6 + 5, none⟩) hgb).trans d5
            have y0 := y0.drew
            have z0 : W1.drew.heap[w.heap.size + 1]? = some (.cells zeroC 25 (0, 0)) := z0
            have x0 : W1.drew.heap[w.heap.size]? = some (.cells #[.string ⟨p.ty.toArray⟩, .string ⟨p.bd.toArray⟩, .int .i64 (p.fr : Int), .int .i64 (p.to : Int), .int .i64 (p.ln : Int), .slice (some ⟨gb, 0, none⟩) p.ps.length cap] 25 (0, 0)) := x0
            have rN := NumRow.below rN0.out y0
            have y9 := HB0.out.trans (y0.mono HB0.out.size)
            clear d0 d1 d2 d3 d4 d5
            go_region_with (first
              | (go_at_call 8; ((with_reducible refine (cI _ y9 rN).mono ?_); rintro e w6 ⟨aq, cq, rfl, h7, h6⟩; have z6 := below_same h6 z0; have u0 := (six_cells z6).1; have u1 := (six_cells z6).2.1; have u2 := (six_cells z6).2.2.1; have u3 := (six_cells z6).2.2.2.1; have u4 := (six_cells z6).2.2.2.2.1; have u5 := (six_cells z6).2.2.2.2.2; have fz := Lib.frozen_of_heap z6)))
            all_goals
              go_wp2_with fail
              refine bodyPost_ret (results_row_tmp (P := Tryz.prog) rfl _ _ (w.heap.size + 1) _ _ _ _ rfl (set_six z6 _ _ _ _ _ _) Tryz.underlying25 rfl part_size) rfl ?_
              refine ⟨_, rfl, ⟨aq, cq, rfl, h7⟩, (six_but (ButAt.of (Q := w.heap.size + 1) (y0.trans (h6.mono y0.size))) (Nat.le_succ _) _ _ _ _ _ _).below (Nat.le_succ _)⟩
end Go.Proofs.YtmjfhhladicacaaGreatDoor
