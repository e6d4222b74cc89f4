/- The walks over mime's Parse and Find, and over the law's count and inside: each returns what its plain function says. Condition of the first: bytealg.MaxLen lies. -/
import Derived.Test.YtmjfhhladicacaaDoorMimeD
namespace Go.Proofs.YtmjfhhladicacaaDoor
open Go.RowKit Go.Shelf

abbrev aggP (p : PT) (ao : Option Addr) (cap : Nat) : Value := .agg #[.string ⟨p.ty.toArray⟩, .string ⟨p.bd.toArray⟩, .int .i64 (p.fr : Int), .int .i64 (p.to : Int), .int .i64 (p.ln : Int), .slice ao p.ps.length cap]
theorem reads_at {W : World} {ok : Nat → Prop} {v : Value} {l : List PT} (h : Reads W ok v l) : ∀ (j : Nat) (t : PT), l[j]? = some t → ∃ g n cap aj cj, v = .slice (some ⟨g, 0, none⟩) n cap ∧ g < W.heap.size ∧ ok g ∧
    W.cell? ⟨g, j * 6, none⟩ = some (.string ⟨t.ty.toArray⟩) ∧ W.cell? ⟨g, j * 6 + 1, none⟩ = some (.string ⟨t.bd.toArray⟩) ∧ W.cell? ⟨g, j * 6 + 2, none⟩ = some (.int .i64 (t.fr : Int)) ∧ W.cell? ⟨g, j * 6 + 3, none⟩ = some (.int .i64 (t.to : Int)) ∧
    W.cell? ⟨g, j * 6 + 4, none⟩ = some (.int .i64 (t.ln : Int)) ∧ W.cell? ⟨g, j * 6 + 5, none⟩ = some (.slice aj t.ps.length cj) ∧ Reads W ok (.slice aj t.ps.length cj) t.ps := by
  intro j t hj
  cases h with
  | empty => simp at hj
  | row g cap l vs h1 h2 h3 h4 =>
    have hr := h4 j t hj
    obtain ⟨aj, cj, e⟩ := reads_slice hr
    have k := h3 j t hj
    rw [e] at k hr
    exact ⟨g, _, cap, aj, cj, rfl, h2, h1, k 0 _ rfl, k 1 _ rfl, k 2 _ rfl, k 3 _ rfl, k 4 _ rfl, k 5 _ rfl, hr⟩

set_option maxRecDepth 100000 in
set_option maxHeartbeats 8000000 in
theorem parse_any (S : List UInt8) (w : World) (hS : S.length ≤ 9000) (hM : MaxL w) :
    Calls Tryd.prog 16 #[.string ⟨S.toArray⟩] w fun e w' => ∃ v, e = .returned v ∧ PartRes (partF S 7 0 0 S.length).1 v w.heap.size w' ∧ Below w.heap.size w w' := by
  have hts := text_size S
  have hGM : GM < w.heap.size := by
    obtain ⟨m, hm⟩ := hM
    rcases Nat.lt_or_ge GM w.heap.size with h' | h'
    · exact h'
    · simp [World.cell?, Array.getElem?_eq_none h'] at hm
  obtain ⟨w2, hw2⟩ : ∃ w2 : World, ((w.alloc (.cells zeroC 40)).alloc (.cells #[.string ⟨S.toArray⟩, .int .i64 0] 72)) = w2 := ⟨_, rfl⟩
  have b2 : Below w.heap.size w w2 := by rw [← hw2]; exact ((Below.refl _ _).alloc (Nat.le_refl _) _).alloc (by rw [alloc_size]; omega) _
  have sz2 : w2.heap.size = w.heap.size + 2 := by rw [← hw2, alloc_size, alloc_size]
  have hM2 : MaxL w2 := hM.below b2
  have z2 : w2.heap[w.heap.size]? = some (.cells zeroC 40 (0, 0)) := by rw [← hw2]; exact alloc_at (World.heap_alloc_new _ _)
  have p2 : ParsAt w2 (w.heap.size + 1) S 0 := by
    rw [← hw2]
    have := World.heap_alloc_new (w.alloc (.cells zeroC 40)) (.cells #[.string ⟨S.toArray⟩, .int .i64 0] 72)
    rw [alloc_size] at this
    exact this
  have hcp : ∀ (W : World), ParsAt W (w.heap.size + 1) S 0 → MaxL W → Calls Tryd.prog 41 #[.pointer (some ⟨w.heap.size + 1, 0, none⟩), .int .i64 0, .int .i64 (S.length : Int), .int .i64 0] W fun e w' => ∃ v, e = .returned v ∧ PartRes (partF S 7 0 0 S.length).1 v W.heap.size w' ∧ ParsAt w' (w.heap.size + 1) S (partF S 7 0 0 S.length).2 ∧ ButAt (w.heap.size + 1) W.heap.size W w' :=
    fun W hp hm => part_any S hS 7 0 0 S.length (w.heap.size + 1) 0 W (by omega) (by omega) (Nat.zero_le _) (Nat.le_refl _) (by omega) hp (by omega) hm
  generalize (partF S 7 0 0 S.length).2 = n2 at hcp
  generalize (partF S 7 0 0 S.length).1 = R at hcp
  have B2 := Lib.hid b2
  have S2 := Lib.hid sz2
  cases R with
  | none =>
    have cP : Calls Tryd.prog 41 #[.pointer (some ⟨w.heap.size + 1, 0, none⟩), .int .i64 0, .int .i64 (S.length : Int), .int .i64 0] w2 fun e w' => e = .returned (.tuple #[.agg zeroC, .iface 51 (.int .i64 4)]) ∧ ButAt (w.heap.size + 1) w2.heap.size w2 w' := by
      refine (hcp w2 p2 hM2).mono ?_
      rintro e w' ⟨v, rfl, h1, _, h3⟩
      have h1' : v = .tuple #[.agg zeroC, .iface 51 (.int .i64 4)] := h1
      exact ⟨by rw [h1'], h3⟩
    clear hcp b2 sz2
    subst hw2
    go_enter Tryd.func16, Tryd.ntmps16
    go_wp2_with (go_at_call 41; with_reducible refine cP.mono ?_; rintro e w6 ⟨rfl, h6⟩; have z6 := (h6.block w.heap.size (by rw [alloc_size, alloc_size]; omega) (by omega)).trans z2; have u0 := (six_cells z6).1; have u1 := (six_cells z6).2.1; have u2 := (six_cells z6).2.2.1; have u3 := (six_cells z6).2.2.2.1; have u4 := (six_cells z6).2.2.2.2.1; have u5 := (six_cells z6).2.2.2.2.2; have fz := Lib.frozen_of_heap z6)
    refine bodyPost_ret (results_row_tmp (P := Tryd.prog) rfl _ _ w.heap.size _ _ _ _ rfl (set_six z6 _ _ _ _ _ _) Tryd.underlying40 rfl part_size) rfl ?_
    refine ⟨_, rfl, rfl, ?_⟩
    exact (six_but ((ButAt.of B2.out).trans (h6.mono (by rw [alloc_size, alloc_size]; omega))) (Nat.le_refl _) _ _ _ _ _ _).below (by omega)
  | some p =>
    have cP : Calls Tryd.prog 41 #[.pointer (some ⟨w.heap.size + 1, 0, none⟩), .int .i64 0, .int .i64 (S.length : Int), .int .i64 0] w2 fun e w' => ∃ aq cq, e = .returned (.tuple #[.agg #[.string ⟨p.ty.toArray⟩, .string ⟨p.bd.toArray⟩, .int .i64 (p.fr : Int), .int .i64 (p.to : Int), .int .i64 (p.ln : Int), .slice aq p.ps.length cq], .nilIface]) ∧ Reads w' (fun j => w2.heap.size ≤ j) (.slice aq p.ps.length cq) p.ps ∧ ButAt (w.heap.size + 1) w2.heap.size w2 w' := by
      refine (hcp w2 p2 hM2).mono ?_
      rintro e w' ⟨v, rfl, ⟨pv, h1, h2⟩, _, h3⟩
      obtain ⟨aq, cq, rfl⟩ := reads_slice h2
      exact ⟨aq, cq, by rw [h1], h2, h3⟩
    clear hcp b2 sz2
    subst hw2
    go_enter Tryd.func16, Tryd.ntmps16
    go_wp2_with (go_at_call 41; with_reducible refine cP.mono ?_; rintro e w6 ⟨aq, cq, rfl, hrd, h6⟩; have z6 := (h6.block w.heap.size (by rw [alloc_size, alloc_size]; omega) (by omega)).trans z2; have u0 := (six_cells z6).1; have u1 := (six_cells z6).2.1; have u2 := (six_cells z6).2.2.1; have u3 := (six_cells z6).2.2.2.1; have u4 := (six_cells z6).2.2.2.2.1; have u5 := (six_cells z6).2.2.2.2.2; have fz := Lib.frozen_of_heap z6)
    refine bodyPost_ret (results_row_tmp (P := Tryd.prog) rfl _ _ w.heap.size _ _ _ _ rfl (set_six z6 _ _ _ _ _ _) Tryd.underlying40 rfl part_size) rfl ?_
    refine ⟨_, rfl, ⟨_, rfl, reads_keep hrd (by rw [six_size]; exact Nat.le_refl _) (fun j hj _ => six_heap w6 _ _ _ _ _ _ j ?_) (fun j hj _ => ?_)⟩, (six_but ((ButAt.of B2.out).trans (h6.mono (by rw [alloc_size, alloc_size]; omega))) (Nat.le_refl _) _ _ _ _ _ _).below (by omega)⟩
    · have hj2 := hj
      rw [alloc_size, alloc_size] at hj2
      omega
    · have hj2 := hj
      rw [alloc_size, alloc_size] at hj2
      omega

theorem cnt_take {f : PT → Nat} {l : List PT} {k : Nat} {q : PT} (h : l[k]? = some q) : sumL f (l.take (k + 1)) = sumL f (l.take k) + f q := by
  rw [List.take_add_one, h]
  exact sumL_snoc f _ q
theorem sum_take_le (f : PT → Nat) : ∀ (l : List PT) (k : Nat), sumL f (l.take k) ≤ sumL f l
  | [], k => by simp [sumL]
  | q :: l, 0 => Nat.zero_le _
  | q :: l, k + 1 => by
    have := sum_take_le f l k
    rw [List.take_succ_cons, sumL, sumL]; omega

set_option maxRecDepth 100000 in
set_option maxHeartbeats 8000000 in
theorem count_parts : ∀ (g : Nat) (p : PT) (ao : Option Addr) (cap : Nat) (w : World) (ok : Nat → Prop), Fine g p → cntF g p ≤ 30 → Reads w ok (.slice ao p.ps.length cap) p.ps →
    Calls Tryd.prog 18 #[aggP p ao cap] w fun e w' => e = .returned (.int .i64 (cntF g p : Int)) ∧ Below w.heap.size w w'
  | 0, p, ao, cap, w, ok, h, _, _ => h.elim
  | g + 1, p, ao, cap, w, ok, h, h30, hR => by
    obtain ⟨_, _, _, _, hlen, hkids⟩ := h
    have IH := count_parts g
    obtain ⟨R, hX⟩ : ∃ R, cntF (g + 1) p = R := ⟨_, rfl⟩
    have hXe : R = 1 + sumL (cntF g) p.ps := by rw [← hX, cntF]
    rw [hX] at h30
    rw [hX]
    clear hX
    obtain ⟨ty, bd, fr, te, ln, ps⟩ := p
    simp only [PT.ty, PT.bd, PT.fr, PT.to, PT.ln, PT.ps] at hlen hkids hR hXe
    show Calls _ _ #[.agg #[.string ⟨ty.toArray⟩, .string ⟨bd.toArray⟩, .int .i64 (fr : Int), .int .i64 (te : Int), .int .i64 (ln : Int), .slice ao ps.length cap]] _ _
    have HR := Lib.hid hR
    have HXe := Lib.hid hXe
    clear hR hXe
    go_enter Tryd.func18, Tryd.ntmps18
    go_wp2_with fail
    go_loopg [3, 4] ps.length (fun g34 s3 s4 wr => ∃ (k c : Nat), k + g34 = ps.length ∧ s4 = .int .i64 (k : Int) ∧ s3 = .int .i64 (c : Int) ∧ c ≤ 30 ∧ Hid (c = 1 + sumL (cntF g) (ps.take k)) ∧ Below w.heap.size w wr ∧
      wr.heap[w.heap.size]? = some (.cells #[.string ⟨ty.toArray⟩, .string ⟨bd.toArray⟩, .int .i64 (fr : Int), .int .i64 (te : Int), .int .i64 (ln : Int), .slice ao ps.length cap] 40 (0, 0)))
    case atStart => exact ⟨0, 1, by omega, rfl, rfl, by omega, (by show _ = _; simp [sumL]), (Below.refl _ _).alloc (Nat.le_refl _) _, World.heap_alloc_new _ _⟩
    case round =>
      obtain ⟨k, c, hk, rfl, rfl, hc30, Hc, hbr, hbx⟩ := hrel
      have x5 := (six_cells hbx).2.2.2.2.2
      by_cases hlt : k < ps.length
      · obtain ⟨g', rfl⟩ : ∃ g', gk = g' + 1 := ⟨gk - 1, by omega⟩
        obtain ⟨q, hq⟩ : ∃ q, ps[k]? = some q := ⟨ps[k], List.getElem?_eq_getElem hlt⟩
        have hRr := reads_keep (W' := wr) (ok' := ok) HR.out hbr.size (fun j _ hj => hbr.block j hj) (fun _ h _ => h)
        obtain ⟨gb, n0, cap0, aj, cj, he, hgb, _, d0, d1, d2, d3, d4, d5, hq5⟩ := reads_at hRr k q hq
        cases he
        have hst := cnt_take (f := cntF g) hq
        have hle := sum_take_le (cntF g) ps (k + 1)
        have hcz : c + cntF g q ≤ 30 := by have := HXe.out; have := Hc.out; omega
        have cI := IH q aj cj wr ok (hkids q (List.mem_of_getElem? hq)) (by omega) hq5
        obtain ⟨m, hm⟩ : ∃ m, cntF g q = m := ⟨_, rfl⟩
        rw [hm] at cI hcz hst
        have Hc2 : Hid (c + m = 1 + sumL (cntF g) (ps.take (k + 1))) := by show _ = _; have := Hc.out; omega
        clear hst hle hm IH
        go_wp2_with (go_at_call 18; with_reducible refine cI.mono ?_; rintro e w1 ⟨rfl, h1⟩; have y := hbr.trans (h1.mono hbr.size); have u := below_same h1 hbx)
        go_roundg g'
        case measure => omega
        case rel => exact ⟨k + 1, c + m, by omega, by go_num, by go_num, hcz, Hc2, y, u⟩
      · have hXc : Hid (c = R) := by
          have := Hc.out
          rw [List.take_of_length_le (by omega)] at this
          show _ = _
          rw [this, HXe.out]
        go_wp2_with fail
        go_ret
        exact ⟨by rw [← hXc.out]; rfl, hbr⟩

set_option maxRecDepth 100000 in
set_option maxHeartbeats 8000000 in
/-- parts that lie in one another, in order: the law's inside says so -/
theorem inside_parts : ∀ (g : Nat) (p : PT) (ao : Option Addr) (cap : Nat) (lo hi : Nat) (w : World) (ok : Nat → Prop), Fine g p → insF g p lo hi = true → Reads w ok (.slice ao p.ps.length cap) p.ps →
    Calls Tryd.prog 17 #[aggP p ao cap, .int .i64 (lo : Int), .int .i64 (hi : Int)] w fun e w' => e = .returned (.bool true) ∧ Below w.heap.size w w'
  | 0, p, ao, cap, lo, hi, w, ok, h, _, _ => h.elim
  | g + 1, p, ao, cap, lo, hi, w, ok, h, hI, hR => by
    obtain ⟨_, _, _, _, hlen, hkids⟩ := h
    have IH := inside_parts g
    rw [insF_iff] at hI
    obtain ⟨i1, i2, i3, i4⟩ := hI
    obtain ⟨ty, bd, fr, te, ln, ps⟩ := p
    simp only [PT.ty, PT.bd, PT.fr, PT.to, PT.ln, PT.ps] at hlen hkids hR i1 i2 i3 i4
    show Calls _ _ #[.agg #[.string ⟨ty.toArray⟩, .string ⟨bd.toArray⟩, .int .i64 (fr : Int), .int .i64 (te : Int), .int .i64 (ln : Int), .slice ao ps.length cap], _, _] _ _
    have HR := Lib.hid hR
    have HI := Lib.hid i4
    clear hR i4
    have n1 : decide (fr < lo) = false := by rw [decide_eq_false_iff_not]; omega
    have n2 : decide (hi < te) = false := by rw [decide_eq_false_iff_not]; omega
    have n3 : decide (te < fr) = false := by rw [decide_eq_false_iff_not]; omega
    have n4 : decide ((ln : Int) < 0) = false := by rw [decide_eq_false_iff_not]; omega
    clear i1 i2 i3
    go_enter Tryd.func17, Tryd.ntmps17
    go_wp2_with fail
    clear n1 n2 n3 n4
    go_loopg [7, 8] ps.length (fun g78 s7 s8 wr => ∃ (k a : Nat), k + g78 = ps.length ∧ s8 = .int .i64 (k : Int) ∧ s7 = .int .i64 (a : Int) ∧ Hid (insL (fun q a => insF g q a te) (ps.drop k) a = true) ∧ Below w.heap.size w wr ∧
      wr.heap[w.heap.size]? = some (.cells #[.string ⟨ty.toArray⟩, .string ⟨bd.toArray⟩, .int .i64 (fr : Int), .int .i64 (te : Int), .int .i64 (ln : Int), .slice ao ps.length cap] 40 (0, 0)))
    case atStart => exact ⟨0, fr, by omega, rfl, rfl, HI.out, (Below.refl _ _).alloc (Nat.le_refl _) _, World.heap_alloc_new _ _⟩
    case round =>
      obtain ⟨k, a, hk, rfl, rfl, Hc, hbr, hbx⟩ := hrel
      have x3 := (six_cells hbx).2.2.2.1
      have x5 := (six_cells hbx).2.2.2.2.2
      by_cases hlt : k < ps.length
      · obtain ⟨g', rfl⟩ : ∃ g', gk = g' + 1 := ⟨gk - 1, by omega⟩
        obtain ⟨q, hq⟩ : ∃ q, ps[k]? = some q := ⟨ps[k], List.getElem?_eq_getElem hlt⟩
        have hRr := reads_keep (W' := wr) (ok' := ok) HR.out hbr.size (fun j _ hj => hbr.block j hj) (fun _ h _ => h)
        obtain ⟨gb, n0, cap0, aj, cj, he, hgb, _, d0, d1, d2, d3, d4, d5, hq5⟩ := reads_at hRr k q hq
        cases he
        have hst := Hc.out
        have hqe : ps[k] = q := by rw [List.getElem?_eq_getElem hlt] at hq; exact Option.some.inj hq
        rw [List.drop_eq_getElem_cons hlt, hqe, insL, Bool.and_eq_true, Bool.and_eq_true, decide_eq_true_eq] at hst
        obtain ⟨⟨e1, e2⟩, e3⟩ := hst
        have n1 : decide (q.fr < a) = false := by rw [decide_eq_false_iff_not]; omega
        have hbd : gb ≠ wr.heap.size := Nat.ne_of_lt hgb
        have hRa := reads_below hq5 ((Below.refl wr.heap.size wr).alloc (Nat.le_refl _) (.cells #[.string ⟨q.ty.toArray⟩, .string ⟨q.bd.toArray⟩, .int .i64 (q.fr : Int), .int .i64 (q.to : Int), .int .i64 (q.ln : Int), .slice aj q.ps.length cj] 40))
        have cI := IH q aj cj a te _ ok (hkids q (List.mem_of_getElem? hq)) e2 hRa
        have Hc2 := Lib.hid e3
        have HQ := Lib.hid hq
        have y0 := hbr.alloc hbr.size (.cells #[.string ⟨q.ty.toArray⟩, .string ⟨q.bd.toArray⟩, .int .i64 (q.fr : Int), .int .i64 (q.to : Int), .int .i64 (q.ln : Int), .slice aj q.ps.length cj] 40)
        have ub := alloc_at (o := .cells #[.string ⟨q.ty.toArray⟩, .string ⟨q.bd.toArray⟩, .int .i64 (q.fr : Int), .int .i64 (q.to : Int), .int .i64 (q.ln : Int), .slice aj q.ps.length cj] 40) hbx
        have xb := World.heap_alloc_new wr (.cells #[.string ⟨q.ty.toArray⟩, .string ⟨q.bd.toArray⟩, .int .i64 (q.fr : Int), .int .i64 (q.to : Int), .int .i64 (q.ln : Int), .slice aj q.ps.length cj] 40)
        have u0 := (six_cells xb).1
        have u1 := (six_cells xb).2.1
        have u2 := (six_cells xb).2.2.1
        have u3 := (six_cells xb).2.2.2.1
        have u4 := (six_cells xb).2.2.2.2.1
        have u5 := (six_cells xb).2.2.2.2.2
        have z3 := (six_cells ub).2.2.2.1
        clear IH e1 e2 e3 hq hqe
        go_wp2_with (go_at_call 17; with_reducible refine cI.mono ?_; rintro e w1 ⟨rfl, h1⟩; have y := y0.trans (h1.mono y0.size); have u := below_same h1 ub; have xc := below_same h1 xb; have v3 := (six_cells xc).2.2.2.1)
        go_roundg g'
        case measure => omega
        case rel => exact ⟨k + 1, q.to, by omega, by go_num, rfl, Hc2, y, u⟩
      · go_wp2_with fail
        go_ret
        exact ⟨rfl, hbr⟩
end Go.Proofs.YtmjfhhladicacaaDoor
