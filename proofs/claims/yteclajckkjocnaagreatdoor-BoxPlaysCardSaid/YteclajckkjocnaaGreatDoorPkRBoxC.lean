/- The walk over the reference's Append. No condition beyond those each names. -/
import Derived.Deep.AppendLies
import Derived.Deep.RegionLaw
import Derived.Test.YteclajckkjocnaaGreatDoorPkHeldS
import Derived.Test.YteclajckkjocnaaGreatDoorPkRBoxG
namespace Go.Proofs.YteclajckkjocnaaGreatDoor
open Go.RowKit Go.Shelf Go.Sort
set_option linter.unusedSimpArgs false
set_option linter.unusedSimpArgs false
section
variable {P : Program} {ops : Array Oper} {Q : Exit → Act → World → Prop} {md : Region.Mode} {S S0 : World → Prop} {t : Nat}
/-- two that may come up -/
theorem until_two {i j : Nat} {oi oj : Oper} {f : Nat} {l : Array Bool} {a : Act} {w : World} (hr : Region.ready md ops l = [i, j]) (hoi : ops[i]? = some oi) (hoj : ops[j]? = some oj)
    (hi : ∀ K' : Act → World → Prop, Shut (∀ a w, S0 w → (i ≠ t → l.getD t true = false → S w) → wpUntil P md ops Q S S0 t f (l.setIfInBounds i true) a w → K' a w) → if Region.wanted oi (yielded ops a.tmps) = true then Oper.wp P oi a w K' Q else K' (a.put oi.dst undef) w)
    (hj : ∀ K' : Act → World → Prop, Shut (∀ a w, S0 w → (j ≠ t → l.getD t true = false → S w) → wpUntil P md ops Q S S0 t f (l.setIfInBounds j true) a w → K' a w) → if Region.wanted oj (yielded ops a.tmps) = true then Oper.wp P oj a w K' Q else K' (a.put oj.dst undef) w) : wpUntil P md ops Q S S0 t (f + 1) l a w := by
  refine ⟨fun h0 => (by rw [h0] at hr; cases hr), fun k hk => ?_⟩
  rw [hr] at hk
  rcases List.mem_cons.1 hk with rfl | hk
  · exact wpOp_step hoi (fun K' hK => hi K' (fun a w k0 k1 k2 => hK a w ⟨⟨k0, k1⟩, k2⟩))
  · obtain rfl := List.mem_singleton.1 hk
    exact wpOp_step hoj (fun K' hK => hj K' (fun a w k0 k1 k2 => hK a w ⟨⟨k0, k1⟩, k2⟩))
end
section
variable {ops : Array Oper} {o : Oper} {a : Act} {K : Act → World → Prop} {Q : Exit → Act → World → Prop} {E : Prop}
/-- append(v, x...), v owned and not nil, x a row of letters, in a region that draws its order -/
theorem step_appZ (w : World) (hgd : o.guard = none) (s x : Operand) (ho : o.op = .call { callee := .builtin .append, args := #[s, x], argTypes := #[22, 22] })
    (base g0 cap0 : Nat) (xs : List (Let × Value)) (hs : a.eval s = .slice (some ⟨g0, 0, none⟩) xs.length cap0) (hown : w.ownsRow base 51 4 (.slice (some ⟨g0, 0, none⟩) xs.length cap0) xs.length (cellsL xs))
    (ao : Option Addr) (zs : List (Let × Value)) (cap : Nat) (hx : a.eval x = .slice ao zs.length cap) (hz : ZRow w (.slice ao zs.length cap) zs)
    (hn : xs.length + zs.length ≤ 1000000) (hbase : base ≤ w.heap.size)
    (h : ∀ g cap' w', w'.ownsRow base 51 4 (.slice (some ⟨g, 0, none⟩) (xs ++ zs).length cap') (xs ++ zs).length (cellsL (xs ++ zs)) → w.grownBy w' (some g0) → (g = g0 ∨ g = w.heap.size) → K (a.put o.dst (.slice (some ⟨g, 0, none⟩) (xs ++ zs).length cap')) w') : if Region.wanted o (yielded ops a.tmps) = true then Oper.wp Tryz.prog o a w K Q else E := by
  obtain ⟨i0, hi, hz0, hz1, hz2⟩ := info_parts let_info
  obtain ⟨ao', cap', e, hcap, ⟨hcm, hnone⟩, hfl, hcell⟩ := hz
  cases e
  have h1 : ∀ u ∈ cellsL zs, u.oneCell' = true := cellsL_one (fun z hz => ⟨w, hfl z hz⟩)
  have hsame : zs = [] → K (a.put o.dst (.slice (some ⟨g0, 0, none⟩) xs.length cap0)) w := fun e => by
    subst e
    have := h g0 cap0 w (by simpa using hown) (World.grownBy.refl _ _) (Or.inl rfl)
    simpa using this
  cases ao with
  | none =>
    have hl : zs = [] := List.eq_nil_of_length_eq_zero (by have := hnone rfl; omega)
    rw [if_pos (by simp [Region.wanted, hgd])]
    have hx' : a.eval x = .slice none 0 0 := by rw [hx, hnone rfl, hl]; rfl
    have hrun := run_append_owned_none (P := Tryz.prog) (w := w) base 22 o.type 51 i0 4 Tryz.underlying22 hi _ _ _ hown
    unfold Oper.wp
    simp [execOp, ho, resolve, invoke, builtin, hs, hx', hrun, Result.andThen]
    exact hsame hl
  | some p =>
    rcases Nat.eq_zero_or_pos zs.length with h0 | h0
    · have hl := List.eq_nil_of_length_eq_zero h0
      have hcap : xs.length ≤ cap0 := by
        rcases hown.2 with ⟨h9, _⟩ | ⟨g, c, cur, h9, _, _, h8, _⟩
        · cases h9
        · cases h9; exact h8
      refine step_append_room hgd s x 22 ho 51 i0 4 Tryz.underlying22 hi hz1 g0 0 xs.length cap0 hs p 0 cap [] (by rw [hx, h0]) rfl (fun j u hj => by simp at hj) (fun u hu => by cases hu) (by omega) (fun j hj => by simp at hj) ?_
      have := hsame hl
      simpa [World.setCells] using this
    · have hp : p = ⟨p.block, p.off, none⟩ := by
        cases zs with
        | nil => simp at h0
        | cons z r =>
          obtain ⟨b, off, e1, _⟩ := hcell 0 _ rfl
          cases e1; rfl
      refine step_append_lies w hgd s x 22 ho base 51 i0 _ 4 56 Tryz.underlying22 hi hz0 hz1 hz2 let_z (by decide) _ xs.length (cellsL xs) hs hown p zs.length cap (cellsL zs) hx (cellsL_len zs) ?_ h1 h0 (by unfold maxLen; omega) (by omega) hbase w.heap.size rfl ?_
      · intro j u hj
        obtain ⟨b, off, e1, _, e3⟩ := hcell j u hj
        cases e1
        rw [add_pl]
        exact e3
      · intro g cap' w' k1 k2 k3 _
        have := h g cap' w' (by rw [cellsL_app, List.length_append]; exact k1) k2 (k3.elim (fun e => Or.inl (Option.some.inj e).symm) Or.inr)
        rwa [List.length_append] at this
end
set_option maxRecDepth 100000 in
set_option maxHeartbeats 4000000 in
theorem rapp_bad (N C : Nat) (b : BoxP) (l : List (List UInt8)) (fv : Value) (day : Int) (text : List UInt8) (n : Nat) (w : World) (hb : RBoxS N w C b) (hf : SRow w fv l) (hl : Short l) (ht : text.length ≤ 1000000) (hbad : (appB b l day text).1 = .inl n) (hll : b.ls.length ≤ 1000000) :
    Calls Tryz.prog 23 #[.pointer (some ⟨C, 0, none⟩), fv, .int .i64 day, .string ⟨text.toArray⟩] w fun e w' => e = .returned (.tuple #[.int .i64 0, .int .i64 (n : Int)]) ∧ Below w.heap.size w w' := by
  obtain ⟨lv, zs, hC, hzs, hx⟩ := hb
  have hzl : zs.length = b.ls.length := by rw [← hzs, List.length_map]
  obtain ⟨ao, cap, rfl, _⟩ := hx.1
  have hCl : C < w.heap.size := (Array.getElem?_eq_some_iff.1 hC).1
  obtain ⟨d0, d1, d2⟩ := three_cells hC
  have HC := Lib.hid hC
  have hts := text_size text
  unfold appB maxN at hbad
  by_cases h2 : 2000 < text.length
  · rw [if_pos h2] at hbad
    cases hbad
    have h2z : (2000 : Int) < (text.length : Int) := by omega
    clear hC hx
    go_enter Tryz.func23, Tryz.ntmps23
    go_wp2_with fail
    go_ret2
    exact ⟨rfl, Below.refl _ _⟩
  rw [if_neg h2] at hbad
  have h2z : ¬ ((2000 : Int) < (text.length : Int)) := by omega
  cases hs : setF l with
  | inl m =>
    have cS := rset_bad hs fv w hf hl
    have hn := rset_pos hs
    have q1 : ¬ ((m : Int) = 0) := by omega
    have q2 : ((m : Int) == 0) = false := by rw [beq_eq_false_iff_ne]; exact q1
    rw [hs] at hbad
    cases hbad
    clear hs hC hx
    go_enter Tryz.func23, Tryz.ntmps23
    go_wp2_with (go_at_call 18; go_loud ((with_reducible refine cS.mono ?_); rintro e w1 ⟨rfl, h⟩))
    go_ret2
    exact ⟨rfl, h⟩
  | inr f =>
    have cS := rset_good hs fv w hf hl
    rw [hs] at hbad
    simp only at hbad
    have cI := fun W => in_any day 0 2147483647 W
    by_cases hd : day < 0 ∨ 2147483647 < day
    · rw [if_pos hd] at hbad
      cases hbad
      rw [show (decide (0 ≤ day) && decide (day ≤ 2147483647)) = false by rw [← Bool.decide_and]; exact decide_eq_false (by omega)] at cI
      clear hs hC hx
      go_enter Tryz.func23, Tryz.ntmps23
      go_wp2_with (first
        | (go_at_call 18; go_loud ((with_reducible refine cS.mono ?_); rintro e w1 ⟨sa, sc, rfl, _, h⟩))
        | (go_at_call 20; go_loud ((with_reducible refine (cI _).mono ?_); rintro e w2 ⟨rfl, rfl⟩)))
      go_ret2
      exact ⟨rfl, h⟩
    · rw [if_neg hd] at hbad
      rw [show (decide (0 ≤ day) && decide (day ≤ 2147483647)) = true by rw [← Bool.decide_and]; exact decide_eq_true (by omega)] at cI
      by_cases hq : 60 ≤ b.ls.length ∨ 2147483647 ≤ b.next
      · rw [if_pos hq] at hbad
        cases hbad
        clear hs hC hx
        rcases Nat.lt_or_ge b.ls.length 60 with h6 | h6
        · have hn : 2147483647 ≤ b.next := by omega
          have h6z : ¬ ((60 : Int) ≤ (zs.length : Int)) := by omega
          go_enter Tryz.func23, Tryz.ntmps23
          go_wp2_with (first
            | (go_at_call 18; go_loud ((with_reducible refine cS.mono ?_); rintro e w1 ⟨sa, sc, rfl, _, h⟩; clear d0 d1 d2; obtain ⟨d0, d1, d2⟩ := three_cells ((h.block C hCl).trans HC.out)))
            | (go_at_call 20; go_loud ((with_reducible refine (cI _).mono ?_); rintro e w2 ⟨rfl, rfl⟩)))
          go_ret2
          exact ⟨rfl, h⟩
        · have h6z : (60 : Int) ≤ (zs.length : Int) := by omega
          go_enter Tryz.func23, Tryz.ntmps23
          go_wp2_with (first
            | (go_at_call 18; go_loud ((with_reducible refine cS.mono ?_); rintro e w1 ⟨sa, sc, rfl, _, h⟩; clear d0 d1 d2; obtain ⟨d0, d1, d2⟩ := three_cells ((h.block C hCl).trans HC.out)))
            | (go_at_call 20; go_loud ((with_reducible refine (cI _).mono ?_); rintro e w2 ⟨rfl, rfl⟩)))
          go_ret2
          exact ⟨rfl, h⟩
      · rw [if_neg hq] at hbad
        cases hbad
/-- behind both appends: the row and the next number are stored -/
theorem rapp_end {N C : Nat} {b : BoxP} {lv : Value} {zs : List (Let × Value)} {f : List (List UInt8)} {gv : Value} {day : Int} {text : List UInt8} {w W w5 : World} {p2 c2 base : Nat}
    (hC : w.heap[C]? = some (.cells #[.int .i64 b.valid, .int .i64 b.next, lv] 26 (0, 0))) (hN : N ≤ C) (hzs : zs.map (·.1) = b.ls) (hx : XRow N w lv zs) (y : Below w.heap.size w W) (hT : TRow W gv f) (hbase : W.heap.size ≤ base)
    (ho : w5.ownsRow base 51 4 (.slice (some ⟨p2, 0, none⟩) (zs.length + 1) c2) (zs.length + 1) (cellsL zs ++ cells1 (⟨b.next, f, day, text⟩, gv))) (y5 : Below W.heap.size W w5) :
    w5.frozen? ⟨C, 2, none⟩ = false ∧ w5.cell? ⟨C, 2, none⟩ = some lv ∧ (w5.setCell ⟨C, 2, none⟩ (.slice (some ⟨p2, 0, none⟩) (zs.length + 1) c2)).frozen? ⟨C, 1, none⟩ = false ∧ (w5.setCell ⟨C, 2, none⟩ (.slice (some ⟨p2, 0, none⟩) (zs.length + 1) c2)).cell? ⟨C, 1, none⟩ = some (.int .i64 b.next) ∧
      ((w5.setCell ⟨C, 2, none⟩ (.slice (some ⟨p2, 0, none⟩) (zs.length + 1) c2)).setCell ⟨C, 1, none⟩ (.int .i64 (b.next + 1))).cell? ⟨C, 1, none⟩ = some (.int .i64 (b.next + 1)) ∧
      Hid (RBoxS N ((w5.setCell ⟨C, 2, none⟩ (.slice (some ⟨p2, 0, none⟩) (zs.length + 1) c2)).setCell ⟨C, 1, none⟩ (.int .i64 (b.next + 1))) C { b with next := b.next + 1, ls := b.ls ++ [⟨b.next, f, day, text⟩] } ∧
        Kept (fun k => k = C) w ((w5.setCell ⟨C, 2, none⟩ (.slice (some ⟨p2, 0, none⟩) (zs.length + 1) c2)).setCell ⟨C, 1, none⟩ (.int .i64 (b.next + 1))) ∧
        FreshL w ((w5.setCell ⟨C, 2, none⟩ (.slice (some ⟨p2, 0, none⟩) (zs.length + 1) c2)).setCell ⟨C, 1, none⟩ (.int .i64 (b.next + 1))) C) := by
  have hCl : C < w.heap.size := (Array.getElem?_eq_some_iff.1 hC).1
  have y05 : Below w.heap.size w w5 := y.trans (y5.mono y.size)
  have hC5 := (y05.block C hCl).trans hC
  have hp2 := ho.lt p2 rfl
  have hys := y.size
  have hC6 := set3_2 (u := .slice (some ⟨p2, 0, none⟩) (zs.length + 1) c2) hC5
  have hC7 := set3_1 (u := .int .i64 (b.next + 1)) hC6
  refine ⟨Lib.frozen_of_heap hC5 2, (three_cells hC5).2.2, Lib.frozen_of_heap hC6 1, (three_cells hC6).2.1, (three_cells hC7).2.1, Lib.hid ?_⟩
  have hS : Spares N w (fun k => k = C) := spares_at hC hN (by decide) (by decide)
  have hS5 : Spares N w5 (fun k => k = C) := spares_at hC5 hN (by decide) (by decide)
  have ho5 : w5.ownsRow base 51 4 (.slice (some ⟨p2, 0, none⟩) (zs.length + 1) c2) (zs ++ [((⟨b.next, f, day, text⟩ : Let), gv)]).length (cellsL (zs ++ [((⟨b.next, f, day, text⟩ : Let), gv)])) := by
    rw [cellsL_app, List.length_append]
    exact ho
  have hX : XRow N w5 (.slice (some ⟨p2, 0, none⟩) (zs.length + 1) c2) (zs ++ [((⟨b.next, f, day, text⟩ : Let), gv)]) := by
    refine ⟨zrow_owns (B := base) ho5 ?_, safe_owns ho5, ?_⟩
    · intro z hz
      rcases List.mem_append.1 hz with h' | h'
      · exact (zrow_flags hx.1 h').below y05
      · obtain rfl := List.mem_singleton.1 h'
        exact hT.1.below y5
    · intro z hz
      rcases List.mem_append.1 hz with h' | h'
      · exact (hx.2.2 z h').below y05
      · obtain rfl := List.mem_singleton.1 h'
        exact (safe_tag hT.2).below y5
  refine ⟨⟨_, _, hC7, ?_, hX.kept (Kept.setB (Kept.setB (Kept.refl _ w5) _) _) hS5⟩, Kept.setB (Kept.setB (kept_below y05) _) _, freshL_new hC7 (fun j hj => by have e : p2 = j := Option.some.inj hj; omega)⟩
  rw [List.map_append, hzs]
  rfl
attribute [local go_sem ↓] Go.wp_at_zero Go.wp_at_succ
set_option maxRecDepth 100000 in
set_option maxHeartbeats 8000000 in
theorem rapp_good (N C : Nat) (b : BoxP) (l : List (List UInt8)) (fv : Value) (day : Int) (text : List UInt8) (n : Int) (w : World) (hb : RBoxS N w C b) (hN : N ≤ C) (hf : SRow w fv l) (hl : Short l) (hok : (appB b l day text).1 = .inr n) (hnx : 0 ≤ b.next) :
    Calls Tryz.prog 23 #[.pointer (some ⟨C, 0, none⟩), fv, .int .i64 day, .string ⟨text.toArray⟩] w fun e w' => e = .returned (.tuple #[.int .i64 n, .int .i64 0]) ∧ RBoxS N w' C (appB b l day text).2 ∧ Kept (fun k => k = C) w w' ∧ FreshL w w' C := by
  obtain ⟨f, hs, ht, hd0, hd1, hll, hnn, rfl, hbox⟩ := app_inv hok
  rw [hbox]
  obtain ⟨lv, zs, hC, hzs, hx⟩ := hb
  have hzl : zs.length < 60 := by rw [← hzs, List.length_map] at hll; exact hll
  obtain ⟨ao, cap, rfl, _⟩ := hx.1
  have hCl : C < w.heap.size := (Array.getElem?_eq_some_iff.1 hC).1
  obtain ⟨d0, d1, d2⟩ := three_cells hC
  have cS := rset_good hs fv w hf hl
  have cI := fun W => in_any day 0 2147483647 W
  rw [show (decide (0 ≤ day) && decide (day ≤ 2147483647)) = true by rw [← Bool.decide_and]; exact decide_eq_true (by omega)] at cI
  obtain ⟨i0, hi, hi0, hi1, hi2⟩ := info_parts let_info
  have hts := text_size text
  have h2z : ¬ ((2000 : Int) < (text.length : Int)) := by omega
  have hq1 : ¬ ((60 : Int) ≤ (zs.length : Int)) := by omega
  have hq2 : ¬ (2147483647 ≤ b.next) := by omega
  have HC := Lib.hid hC
  have HX := Lib.hid hx
  have HZS := Lib.hid hzs
  clear hok hbox hs ht hC hx hzs
  go_enter Tryz.func23, Tryz.ntmps23
  go_upto_region 10 with (first
    | (go_at_call 18; go_loud ((with_reducible refine cS.mono ?_); rintro e w1 ⟨sa, sc, rfl, hT, h⟩; clear d0 d1 d2; obtain ⟨d0, d1, d2⟩ := three_cells ((h.block C hCl).trans HC.out)))
    | (go_at_call 20; go_loud ((with_reducible refine (cI _).mono ?_); rintro e w2 ⟨rfl, rfl⟩)))
  clear d0 d1 d2 cS cI
  have hC1 := (h.block C hCl).trans HC.out
  have hz1 := (HX.out.below h).1
  have hCd : w1.drew.heap[C]? = some (.cells #[.int .i64 b.valid, .int .i64 b.next, .slice ao zs.length cap] 26 (0, 0)) := hC1
  have kd : Below w1.heap.size w1 w1.drew := (Below.refl _ w1).drew
  have hzd : ZRow w1.drew (.slice ao zs.length cap) zs := ((HX.out.below h).below kd).1
  have hsd : w1.heap.size ≤ w1.drew.heap.size := kd.size
  have hCl1 : C < w1.drew.heap.size := (Array.getElem?_eq_some_iff.1 hCd).1
  refine until_start (S := fun W => W.cell? ⟨C, 1, none⟩ = some (.int .i64 b.next) ∧ W.cell? ⟨C, 2, none⟩ = some (.slice ao zs.length cap)) (S0 := fun _ => True) (t := 19) (by kernel_rfl) ?_
  generalize w1.drew = wd at *
  have hS1 : (fun W : World => W.cell? ⟨C, 1, none⟩ = some (.int .i64 b.next) ∧ W.cell? ⟨C, 2, none⟩ = some (.slice ao zs.length cap)) wd := ⟨(three_cells hCd).2.1, (three_cells hCd).2.2⟩
  refine until_take0 (i := 0) (v := ?v0) rfl (by kernel_rfl) (by kernel_rfl) (by kernel_rfl) (by rfl) (fun _ _ _ h => h) (Or.inl ⟨by rfl, ?y0⟩) trivial (fun _ => hS1) ?r0
  case y0 => (intro W hSw; (try dsimp only at hSw); go_simp; try with_reducible rfl)
  try simp only [Act.put, List.setIfInBounds_toArray, List.set_cons_zero, List.set_cons_succ]
  refine until_take0 (i := 2) (v := ?v2) rfl (by kernel_rfl) (by kernel_rfl) (by kernel_rfl) (by rfl) (fun _ _ _ h => h) (Or.inl ⟨by rfl, ?y2⟩) trivial (fun _ => hS1) ?r2
  case y2 => (intro W hSw; (try dsimp only at hSw); go_simp; try with_reducible rfl)
  try simp only [Act.put, List.setIfInBounds_toArray, List.set_cons_zero, List.set_cons_succ]
  refine until_take0 (i := 3) (v := ?v3) rfl (by kernel_rfl) (by kernel_rfl) (by kernel_rfl) (by rfl) (fun _ _ _ h => h) (Or.inl ⟨by rfl, ?y3⟩) trivial (fun _ => hS1) ?r3
  case y3 => (intro W hSw; (try dsimp only at hSw); go_simp; try with_reducible rfl)
  try simp only [Act.put, List.setIfInBounds_toArray, List.set_cons_zero, List.set_cons_succ]
  refine until_take0 (i := 4) (v := ?v4) rfl (by kernel_rfl) (by kernel_rfl) (by kernel_rfl) (by rfl) (fun _ _ _ h => h) (Or.inl ⟨by rfl, ?y4⟩) trivial (fun _ => hS1) ?r4
  case y4 => (intro W hSw; (try dsimp only at hSw); go_simp; try with_reducible rfl)
  try simp only [Act.put, List.setIfInBounds_toArray, List.set_cons_zero, List.set_cons_succ]
  refine until_take (i := 5) (v := ?v5) rfl (by kernel_rfl) (by kernel_rfl) (by kernel_rfl) (by kernel_rfl) (fun _ _ _ h => h) (Or.inl ⟨by rfl, ?y5⟩) trivial hS1 ?r5
  case y5 => (intro W hSw; (try dsimp only at hSw); go_simp; try with_reducible rfl)
  try simp only [Act.put, List.setIfInBounds_toArray, List.set_cons_zero, List.set_cons_succ]
  refine until_take0 (i := 7) (v := ?v7) rfl (by kernel_rfl) (by kernel_rfl) (by kernel_rfl) (by rfl) (fun _ _ _ h => h) (Or.inl ⟨by rfl, ?y7⟩) trivial (fun _ => hS1) ?r7
  case y7 => (intro W hSw; (try dsimp only at hSw); go_simp; try with_reducible rfl)
  try simp only [Act.put, List.setIfInBounds_toArray, List.set_cons_zero, List.set_cons_succ]
  refine until_take0 (i := 8) (v := ?v8) rfl (by kernel_rfl) (by kernel_rfl) (by kernel_rfl) (by rfl) (fun _ _ _ h => h) (Or.inl ⟨by rfl, ?y8⟩) trivial (fun _ => hS1) ?r8
  case y8 => (intro W hSw; (try dsimp only at hSw); go_simp; try with_reducible rfl)
  try simp only [Act.put, List.setIfInBounds_toArray, List.set_cons_zero, List.set_cons_succ]
  refine until_take0 (i := 9) (v := ?v9) rfl (by kernel_rfl) (by kernel_rfl) (by kernel_rfl) (by rfl) (fun _ _ _ h => h) (Or.inl ⟨by rfl, ?y9⟩) trivial (fun _ => hS1) ?r9
  case y9 => (intro W hSw; (try dsimp only at hSw); go_simp; try with_reducible rfl)
  try simp only [Act.put, List.setIfInBounds_toArray, List.set_cons_zero, List.set_cons_succ]
  refine until_take (i := 10) (v := ?v10) rfl (by kernel_rfl) (by kernel_rfl) (by kernel_rfl) (by kernel_rfl) (fun _ _ _ h => h) (Or.inl ⟨by rfl, ?y10⟩) trivial hS1 ?r10
  case y10 => (intro W hSw; (try dsimp only at hSw); go_simp; try with_reducible rfl)
  try simp only [Act.put, List.setIfInBounds_toArray, List.set_cons_zero, List.set_cons_succ]
  refine until_take0 (i := 11) (v := ?v11) rfl (by kernel_rfl) (by kernel_rfl) (by kernel_rfl) (by rfl) (fun _ _ _ h => h) (Or.inl ⟨by rfl, ?y11⟩) trivial (fun _ => hS1) ?r11
  case y11 => (intro W hSw; (try dsimp only at hSw); go_simp; try with_reducible rfl)
  try simp only [Act.put, List.setIfInBounds_toArray, List.set_cons_zero, List.set_cons_succ]
  refine until_take0 (i := 12) (v := ?v12) rfl (by kernel_rfl) (by kernel_rfl) (by kernel_rfl) (by rfl) (fun _ _ _ h => h) (Or.inl ⟨by rfl, ?y12⟩) trivial (fun _ => hS1) ?r12
  case y12 => (intro W hSw; (try dsimp only at hSw); go_simp; try with_reducible rfl)
  try simp only [Act.put, List.setIfInBounds_toArray, List.set_cons_zero, List.set_cons_succ]
  refine until_take0 (i := 13) (v := ?v13) rfl (by kernel_rfl) (by kernel_rfl) (by kernel_rfl) (by rfl) (fun _ _ _ h => h) (Or.inl ⟨by rfl, ?y13⟩) trivial (fun _ => hS1) ?r13
  case y13 => (intro W hSw; (try dsimp only at hSw); go_simp; try with_reducible rfl)
  try simp only [Act.put, List.setIfInBounds_toArray, List.set_cons_zero, List.set_cons_succ]
  refine until_take0 (i := 14) (v := ?v14) rfl (by kernel_rfl) (by kernel_rfl) (by kernel_rfl) (by rfl) (fun _ _ _ h => h) (Or.inl ⟨by rfl, ?y14⟩) trivial (fun _ => hS1) ?r14
  case y14 => (intro W hSw; (try dsimp only at hSw); go_simp; try with_reducible rfl)
  try simp only [Act.put, List.setIfInBounds_toArray, List.set_cons_zero, List.set_cons_succ]
  have HZD := Lib.hid hzd
  have hcell : ∀ W, Below wd.heap.size wd W → W.cell? ⟨C, 1, none⟩ = some (.int .i64 b.next) ∧ W.cell? ⟨C, 2, none⟩ = some (.slice ao zs.length cap) := fun W hW => by
    have hCW := (hW.block C hCl1).trans hCd
    exact ⟨(three_cells hCW).2.1, (three_cells hCW).2.2⟩
  have HCELL := Lib.hid hcell
  have hone : ∀ u ∈ cells1 ((⟨b.next, f, day, text⟩ : Let), Value.slice sa f.length sc), u.oneCell' = true := fun u hu => by
    simp only [cells1, List.mem_cons, List.not_mem_nil, or_false] at hu
    rcases hu with rfl | rfl | rfl | rfl <;> rfl
  have HONE := Lib.hid hone
  have hT1 := hT
  have HH := Lib.hid h; have HHD := Lib.hid kd; have HSD := Lib.hid hsd
  clear hz1 hzd hcell hone hS1 hC1 hCd h kd hsd
  refine until_two (i := 1) (j := 15) (by kernel_rfl) rfl rfl (fun K hK => ?_) (fun K hK => ?_)
  · have yE : Below wd.heap.size wd (wd.alloc (.cells #[] 51)) := (Below.refl wd.heap.size wd).alloc (Nat.le_refl _) _
    have oE : (wd.alloc (.cells #[] 51)).ownsRow wd.heap.size 51 4 (.slice (some ⟨wd.heap.size, 0, none⟩) 0 0) ([] : List (Let × Value)).length (cellsL []) := World.ownsRow_lit wd #[] 0 (Nat.le_refl _) (by decide) rfl
    have sE := alloc_size wd (.cells #[] 51)
    have SE := Lib.hid sE
    clear sE
    go_simp
    refine hK.out _ _ trivial (fun _ _ => HCELL.out _ yE) ?_
    clear hK K
    try simp only [Act.put, List.setIfInBounds_toArray, List.set_cons_zero, List.set_cons_succ]
    refine until_two (i := 6) (j := 15) (by kernel_rfl) rfl rfl (fun K hK => ?_) (fun K hK => ?_)
    · refine step_appZ (wd.alloc (.cells #[] 51)) (by rfl) (.tmp 40) (.tmp 44) (by rfl) wd.heap.size wd.heap.size 0 [] (by rfl) oE ao zs cap (by rfl) (HZD.out.below yE) (by simp; omega) yE.size ?_
      intro p4 c4 w4 ho4 hg4 hp4
      simp only [List.nil_append] at ho4 ⊢
      have y4 : Below wd.heap.size wd w4 := yE.grown hg4 yE.size (fun j e => by cases e; exact Nat.le_refl _)
      refine hK.out _ _ trivial (fun _ _ => HCELL.out _ y4) ?_
      clear hK K oE yE SE
      try simp only [Act.put, List.setIfInBounds_toArray, List.set_cons_zero, List.set_cons_succ]
      refine until_step (i := 15) (by kernel_rfl) rfl (fun K hK => ?_)
      have yN : Below wd.heap.size wd (w4.alloc (.cells #[.int .i64 b.next, .slice sa f.length sc, .int .i64 day, .string ⟨text.toArray⟩] 51)) := y4.alloc y4.size _
      have ho4 := ho4.alloc (.cells #[.int .i64 b.next, .slice sa f.length sc, .int .i64 day, .string ⟨text.toArray⟩] 51)
      have hNw : ∀ j u, (cells1 ((⟨b.next, f, day, text⟩ : Let), Value.slice sa f.length sc))[j]? = some u → (w4.alloc (.cells #[.int .i64 b.next, .slice sa f.length sc, .int .i64 day, .string ⟨text.toArray⟩] 51)).cell? ((⟨w4.heap.size, 0, none⟩ : Addr).add j) = some u := World.news_of_block (World.heap_alloc_new w4 (.cells #[.int .i64 b.next, .slice sa f.length sc, .int .i64 day, .string ⟨text.toArray⟩] 51))
      have HNW := Lib.hid hNw; have HO4 := Lib.hid ho4
      clear hNw
      go_simp
      refine hK.out _ _ trivial (fun _ _ => HCELL.out _ yN) ?_
      clear hK K
      try simp only [Act.put, List.setIfInBounds_toArray, List.set_cons_zero, List.set_cons_succ]
      refine until_step (i := 16) (by kernel_rfl) rfl (fun K hK => ?_)
      refine step_append_lies (w4.alloc (.cells #[.int .i64 b.next, .slice sa f.length sc, .int .i64 day, .string ⟨text.toArray⟩] 51)) (by rfl) (.tmp 45) (.tmp 54) 22 (by rfl) wd.heap.size 51 i0 _ 4 56 Tryz.underlying22 hi hi0 hi1 hi2 let_z (by decide) (.slice (some ⟨p4, 0, none⟩) zs.length c4) zs.length (cellsL zs) (by rfl) HO4.out ⟨w4.heap.size, 0, none⟩ 1 1 (cells1 ((⟨b.next, f, day, text⟩ : Let), Value.slice sa f.length sc)) (by rfl) (by rfl) HNW.out HONE.out (by decide) (by unfold maxLen; omega) (by omega) yN.size _ rfl ?_
      intro p5 c5 w5 ho5 hg5 hp5 hp5l
      have y5 : Below wd.heap.size wd w5 := yN.grown hg5 yN.size (fun j e => by cases e; exact (ho4.lt p4 rfl).1)
      refine hK.out _ _ trivial (fun _ _ => HCELL.out _ y5) ?_
      clear hK K
      try simp only [Act.put, List.setIfInBounds_toArray, List.set_cons_zero, List.set_cons_succ]
      clear ho4 yN y4 HNW HO4
      refine until_take0 (i := 17) (v := ?va17) rfl (by kernel_rfl) (by kernel_rfl) (by kernel_rfl) (by rfl) (fun _ _ _ h => h) (Or.inl ⟨by rfl, ?ya17⟩) trivial (fun _ => HCELL.out _ y5) ?ra17
      case ya17 => (intro W hSw; (try dsimp only at hSw); go_simp; try with_reducible rfl)
      try simp only [Act.put, List.setIfInBounds_toArray, List.set_cons_zero, List.set_cons_succ]
      refine until_take0 (i := 18) (v := ?va18) rfl (by kernel_rfl) (by kernel_rfl) (by kernel_rfl) (by rfl) (fun _ _ _ h => h) (Or.inl ⟨by rfl, ?ya18⟩) trivial (fun _ => HCELL.out _ y5) ?ra18
      case ya18 => (intro W hSw; (try dsimp only at hSw); go_simp; try with_reducible rfl)
      try simp only [Act.put, List.setIfInBounds_toArray, List.set_cons_zero, List.set_cons_succ]
      obtain ⟨r1, r2, r3, r4, r5, HP⟩ := rapp_end HC.out hN HZS.out HX.out HH.out hT.out HSD.out ho5 (HHD.out.trans (y5.mono HSD.out))
      refine until_step (i := 19) (by kernel_rfl) rfl (fun K hK => ?_)
      go_simp
      refine hK.out _ _ trivial (fun h => absurd rfl h) ?_
      clear hK K
      refine until_done (by kernel_rfl) ?_ _
      clear ho5 y5
      go_wp2_with fail
      go_ret2
      exact ⟨by go_num, HP.out⟩
    · have yN : Below wd.heap.size wd ((wd.alloc (.cells #[] 51)).alloc (.cells #[.int .i64 b.next, .slice sa f.length sc, .int .i64 day, .string ⟨text.toArray⟩] 51)) := yE.alloc yE.size _
      have oE2 := oE.alloc (.cells #[.int .i64 b.next, .slice sa f.length sc, .int .i64 day, .string ⟨text.toArray⟩] 51)
      have hNw : ∀ j u, (cells1 ((⟨b.next, f, day, text⟩ : Let), Value.slice sa f.length sc))[j]? = some u → ((wd.alloc (.cells #[] 51)).alloc (.cells #[.int .i64 b.next, .slice sa f.length sc, .int .i64 day, .string ⟨text.toArray⟩] 51)).cell? ((⟨wd.heap.size + 1, 0, none⟩ : Addr).add j) = some u := by
        have := World.heap_alloc_new (wd.alloc (.cells #[] 51)) (.cells #[.int .i64 b.next, .slice sa f.length sc, .int .i64 day, .string ⟨text.toArray⟩] 51)
        rw [SE.out] at this
        exact World.news_of_block this
      have hnl : wd.heap.size + 1 < ((wd.alloc (.cells #[] 51)).alloc (.cells #[.int .i64 b.next, .slice sa f.length sc, .int .i64 day, .string ⟨text.toArray⟩] 51)).heap.size := by rw [alloc_size, SE.out]; omega
      have HNW := Lib.hid hNw; have OE2 := Lib.hid oE2; have HNL := Lib.hid hnl
      clear hNw oE2 hnl
      go_simp
      refine hK.out _ _ trivial (fun _ _ => HCELL.out _ yN) ?_
      clear hK K
      try simp only [Act.put, List.setIfInBounds_toArray, List.set_cons_zero, List.set_cons_succ]
      refine until_step (i := 6) (by kernel_rfl) rfl (fun K hK => ?_)
      refine step_appZ ((wd.alloc (.cells #[] 51)).alloc (.cells #[.int .i64 b.next, .slice sa f.length sc, .int .i64 day, .string ⟨text.toArray⟩] 51)) (by rfl) (.tmp 40) (.tmp 44) (by rfl) wd.heap.size wd.heap.size 0 [] (by rfl) OE2.out ao zs cap (by rfl) (HZD.out.below yN) (by simp; omega) yN.size ?_
      intro p4 c4 w4 ho4 hg4 hp4
      simp only [List.nil_append] at ho4 ⊢
      have y4 : Below wd.heap.size wd w4 := yN.grown hg4 yN.size (fun j e => by cases e; exact Nat.le_refl _)
      have hNw : ∀ j u, (cells1 ((⟨b.next, f, day, text⟩ : Let), Value.slice sa f.length sc))[j]? = some u → w4.cell? ((⟨wd.heap.size + 1, 0, none⟩ : Addr).add j) = some u := fun j u hu => (hg4.cell_far _ (by rw [add_pl]; exact HNL.out) (by rw [add_pl]; intro e; have := Option.some.inj e; simp at this)).trans (HNW.out j u hu)
      have HNW4 := Lib.hid hNw; have HO4 := Lib.hid ho4
      clear hNw
      refine hK.out _ _ trivial (fun _ _ => HCELL.out _ y4) ?_
      clear hK K oE yE SE yN
      try simp only [Act.put, List.setIfInBounds_toArray, List.set_cons_zero, List.set_cons_succ]
      refine until_step (i := 16) (by kernel_rfl) rfl (fun K hK => ?_)
      refine step_append_lies w4 (by rfl) (.tmp 45) (.tmp 54) 22 (by rfl) wd.heap.size 51 i0 _ 4 56 Tryz.underlying22 hi hi0 hi1 hi2 let_z (by decide) (.slice (some ⟨p4, 0, none⟩) zs.length c4) zs.length (cellsL zs) (by rfl) HO4.out ⟨wd.heap.size + 1, 0, none⟩ 1 1 (cells1 ((⟨b.next, f, day, text⟩ : Let), Value.slice sa f.length sc)) (by rfl) (by rfl) HNW4.out HONE.out (by decide) (by unfold maxLen; omega) (by omega) y4.size _ rfl ?_
      intro p5 c5 w5 ho5 hg5 hp5 hp5l
      have y5 : Below wd.heap.size wd w5 := y4.grown hg5 y4.size (fun j e => by cases e; exact (ho4.lt p4 rfl).1)
      refine hK.out _ _ trivial (fun _ _ => HCELL.out _ y5) ?_
      clear hK K
      try simp only [Act.put, List.setIfInBounds_toArray, List.set_cons_zero, List.set_cons_succ]
      clear ho4 y4 HNW HNW4 HO4 OE2 HNL
      refine until_take0 (i := 17) (v := ?vb17) rfl (by kernel_rfl) (by kernel_rfl) (by kernel_rfl) (by rfl) (fun _ _ _ h => h) (Or.inl ⟨by rfl, ?yb17⟩) trivial (fun _ => HCELL.out _ y5) ?rb17
      case yb17 => (intro W hSw; (try dsimp only at hSw); go_simp; try with_reducible rfl)
      try simp only [Act.put, List.setIfInBounds_toArray, List.set_cons_zero, List.set_cons_succ]
      refine until_take0 (i := 18) (v := ?vb18) rfl (by kernel_rfl) (by kernel_rfl) (by kernel_rfl) (by rfl) (fun _ _ _ h => h) (Or.inl ⟨by rfl, ?yb18⟩) trivial (fun _ => HCELL.out _ y5) ?rb18
      case yb18 => (intro W hSw; (try dsimp only at hSw); go_simp; try with_reducible rfl)
      try simp only [Act.put, List.setIfInBounds_toArray, List.set_cons_zero, List.set_cons_succ]
      obtain ⟨r1, r2, r3, r4, r5, HP⟩ := rapp_end HC.out hN HZS.out HX.out HH.out hT.out HSD.out ho5 (HHD.out.trans (y5.mono HSD.out))
      refine until_step (i := 19) (by kernel_rfl) rfl (fun K hK => ?_)
      go_simp
      refine hK.out _ _ trivial (fun h => absurd rfl h) ?_
      clear hK K
      refine until_done (by kernel_rfl) ?_ _
      clear ho5 y5
      go_wp2_with fail
      go_ret2
      exact ⟨by go_num, HP.out⟩
  · have yN : Below wd.heap.size wd (wd.alloc (.cells #[.int .i64 b.next, .slice sa f.length sc, .int .i64 day, .string ⟨text.toArray⟩] 51)) := (Below.refl wd.heap.size wd).alloc (Nat.le_refl _) _
    have sE := alloc_size wd (.cells #[.int .i64 b.next, .slice sa f.length sc, .int .i64 day, .string ⟨text.toArray⟩] 51)
    have SE := Lib.hid sE
    clear sE
    have hNb := World.heap_alloc_new wd (.cells #[.int .i64 b.next, .slice sa f.length sc, .int .i64 day, .string ⟨text.toArray⟩] 51)
    have HNB := Lib.hid hNb
    clear hNb
    go_simp
    refine hK.out _ _ trivial (fun _ _ => HCELL.out _ yN) ?_
    clear hK K
    try simp only [Act.put, List.setIfInBounds_toArray, List.set_cons_zero, List.set_cons_succ]
    refine until_step (i := 1) (by kernel_rfl) rfl (fun K hK => ?_)
    have yE : Below wd.heap.size wd ((wd.alloc (.cells #[.int .i64 b.next, .slice sa f.length sc, .int .i64 day, .string ⟨text.toArray⟩] 51)).alloc (.cells #[] 51)) := yN.alloc yN.size _
    have oE : ((wd.alloc (.cells #[.int .i64 b.next, .slice sa f.length sc, .int .i64 day, .string ⟨text.toArray⟩] 51)).alloc (.cells #[] 51)).ownsRow wd.heap.size 51 4 (.slice (some ⟨wd.heap.size + 1, 0, none⟩) 0 0) ([] : List (Let × Value)).length (cellsL []) := by
      have := World.ownsRow_lit (base := wd.heap.size) (e := 51) (size := 4) (wd.alloc (.cells #[.int .i64 b.next, .slice sa f.length sc, .int .i64 day, .string ⟨text.toArray⟩] 51)) #[] 0 (by rw [SE.out]; omega) (by decide) rfl
      rw [SE.out] at this
      exact this
    have hNw : ∀ j u, (cells1 ((⟨b.next, f, day, text⟩ : Let), Value.slice sa f.length sc))[j]? = some u → ((wd.alloc (.cells #[.int .i64 b.next, .slice sa f.length sc, .int .i64 day, .string ⟨text.toArray⟩] 51)).alloc (.cells #[] 51)).cell? ((⟨wd.heap.size, 0, none⟩ : Addr).add j) = some u := World.news_of_block (alloc_at HNB.out)
    have hnl : wd.heap.size < ((wd.alloc (.cells #[.int .i64 b.next, .slice sa f.length sc, .int .i64 day, .string ⟨text.toArray⟩] 51)).alloc (.cells #[] 51)).heap.size := by rw [alloc_size, SE.out]; omega
    have HNW := Lib.hid hNw; have HNL := Lib.hid hnl; have OE := Lib.hid oE
    clear hNw hnl oE
    go_simp
    refine hK.out _ _ trivial (fun _ _ => HCELL.out _ yE) ?_
    clear hK K
    try simp only [Act.put, List.setIfInBounds_toArray, List.set_cons_zero, List.set_cons_succ]
    refine until_step (i := 6) (by kernel_rfl) rfl (fun K hK => ?_)
    refine step_appZ ((wd.alloc (.cells #[.int .i64 b.next, .slice sa f.length sc, .int .i64 day, .string ⟨text.toArray⟩] 51)).alloc (.cells #[] 51)) (by rfl) (.tmp 40) (.tmp 44) (by rfl) wd.heap.size (wd.heap.size + 1) 0 [] (by rfl) OE.out ao zs cap (by rfl) (HZD.out.below yE) (by simp; omega) yE.size ?_
    intro p4 c4 w4 ho4 hg4 hp4
    simp only [List.nil_append] at ho4 ⊢
    have y4 : Below wd.heap.size wd w4 := yE.grown hg4 yE.size (fun j e => by cases e; exact Nat.le_succ _)
    have hNw : ∀ j u, (cells1 ((⟨b.next, f, day, text⟩ : Let), Value.slice sa f.length sc))[j]? = some u → w4.cell? ((⟨wd.heap.size, 0, none⟩ : Addr).add j) = some u := fun j u hu => (hg4.cell_far _ (by rw [add_pl]; exact HNL.out) (by rw [add_pl]; intro e; have := Option.some.inj e; simp at this)).trans (HNW.out j u hu)
    have HNW4 := Lib.hid hNw; have HO4 := Lib.hid ho4
    clear hNw
    refine hK.out _ _ trivial (fun _ _ => HCELL.out _ y4) ?_
    clear hK K yE yN SE
    try simp only [Act.put, List.setIfInBounds_toArray, List.set_cons_zero, List.set_cons_succ]
    refine until_step (i := 16) (by kernel_rfl) rfl (fun K hK => ?_)
    refine step_append_lies w4 (by rfl) (.tmp 45) (.tmp 54) 22 (by rfl) wd.heap.size 51 i0 _ 4 56 Tryz.underlying22 hi hi0 hi1 hi2 let_z (by decide) (.slice (some ⟨p4, 0, none⟩) zs.length c4) zs.length (cellsL zs) (by rfl) HO4.out ⟨wd.heap.size, 0, none⟩ 1 1 (cells1 ((⟨b.next, f, day, text⟩ : Let), Value.slice sa f.length sc)) (by rfl) (by rfl) HNW4.out HONE.out (by decide) (by unfold maxLen; omega) (by omega) y4.size _ rfl ?_
    intro p5 c5 w5 ho5 hg5 hp5 hp5l
    have y5 : Below wd.heap.size wd w5 := y4.grown hg5 y4.size (fun j e => by cases e; exact (ho4.lt p4 rfl).1)
    refine hK.out _ _ trivial (fun _ _ => HCELL.out _ y5) ?_
    clear hK K
    try simp only [Act.put, List.setIfInBounds_toArray, List.set_cons_zero, List.set_cons_succ]
    clear ho4 y4 HNW HNW4 HO4 OE HNL HNB
    refine until_take0 (i := 17) (v := ?vc17) rfl (by kernel_rfl) (by kernel_rfl) (by kernel_rfl) (by rfl) (fun _ _ _ h => h) (Or.inl ⟨by rfl, ?yc17⟩) trivial (fun _ => HCELL.out _ y5) ?rc17
    case yc17 => (intro W hSw; (try dsimp only at hSw); go_simp; try with_reducible rfl)
    try simp only [Act.put, List.setIfInBounds_toArray, List.set_cons_zero, List.set_cons_succ]
    refine until_take0 (i := 18) (v := ?vc18) rfl (by kernel_rfl) (by kernel_rfl) (by kernel_rfl) (by rfl) (fun _ _ _ h => h) (Or.inl ⟨by rfl, ?yc18⟩) trivial (fun _ => HCELL.out _ y5) ?rc18
    case yc18 => (intro W hSw; (try dsimp only at hSw); go_simp; try with_reducible rfl)
    try simp only [Act.put, List.setIfInBounds_toArray, List.set_cons_zero, List.set_cons_succ]
    obtain ⟨r1, r2, r3, r4, r5, HP⟩ := rapp_end HC.out hN HZS.out HX.out HH.out hT.out HSD.out ho5 (HHD.out.trans (y5.mono HSD.out))
    refine until_step (i := 19) (by kernel_rfl) rfl (fun K hK => ?_)
    go_simp
    refine hK.out _ _ trivial (fun h => absurd rfl h) ?_
    clear hK K
    refine until_done (by kernel_rfl) ?_ _
    clear ho5 y5
    go_wp2_with fail
    go_ret2
    exact ⟨by go_num, HP.out⟩
theorem rapp_any (N C : Nat) (b : BoxP) (l : List (List UInt8)) (fv : Value) (day : Int) (text : List UInt8) (w : World) (hb : RBoxS N w C b) (hN : N ≤ C) (hr : rightB b = true) (hf : SRow w fv l) (hl : Short l) (ht : text.length ≤ 1000000) :
    Calls Tryz.prog 23 #[.pointer (some ⟨C, 0, none⟩), fv, .int .i64 day, .string ⟨text.toArray⟩] w fun e w' => e = .returned (.tuple #[.int .i64 (numA (appB b l day text).1), .int .i64 (errN (errO (appB b l day text).1))]) ∧ RBoxS N w' C (appB b l day text).2 ∧ Kept (fun k => k = C) w w' ∧ FreshL w w' C := by
  have hnx : 0 ≤ b.next := by
    unfold rightB numB at hr
    simp only [Bool.and_eq_true, decide_eq_true_eq] at hr
    omega
  rcases app_stays b l day text with ⟨n, e1, e2⟩ | ⟨⟨n, e1⟩, _⟩
  · refine (rapp_bad N C b l fv day text n w hb hf hl ht e1 (by have := right_len hr; omega)).mono ?_
    rintro e w' ⟨rfl, h⟩
    rw [e1, e2]
    obtain ⟨lv, hC⟩ := hb.obj
    exact ⟨rfl, hb.below h, kept_below h, freshL_same (h.block C (Array.getElem?_eq_some_iff.1 hC).1)⟩
  · refine (rapp_good N C b l fv day text n w hb hN hf hl e1 hnx).mono ?_
    rintro e w' ⟨rfl, h1, h2⟩
    rw [e1]
    exact ⟨rfl, h1, h2⟩
end Go.Proofs.YteclajckkjocnaaGreatDoor
