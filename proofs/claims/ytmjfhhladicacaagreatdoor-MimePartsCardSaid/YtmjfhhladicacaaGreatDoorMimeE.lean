/- The walks over mime's Parse and Find, and over the law's count and inside: each returns what its plain function says. Condition of the first: bytealg.MaxLen lies. -/
import Derived.Test.YtmjfhhladicacaaGreatDoorMimeD
namespace Go.Proofs.YtmjfhhladicacaaGreatDoor
open Go.RowKit Go.Shelf

abbrev aggP (p : PT) (ao : Option Addr) (cap : Nat) : Value := .agg #[.string ⟨p.ty.toArray⟩, .string ⟨p.bd.toArray⟩, .int .i64 (p.fr : Int), .int .i64 (p.to : Int), .int .i64 (p.ln : Int), .slice ao p.ps.length cap]
theorem reads_at {W : World} {ok : Nat → Prop} {v : Value} {l : List PT} (h : Reads W ok v l) : ∀ (j : Nat) (t : PT), l[j]? = some t → ∃ g n cap aj cj, v = .slice (some ⟨g, 0, none⟩) n cap ∧ g < W.heap.size ∧ ok g ∧
    W.cell? ⟨g, j * 6, none⟩ = some (.string ⟨t.ty.toArray⟩) ∧ W.cell? ⟨g, j * 6 + 1, none⟩ = some (.string ⟨t.bd.toArray⟩) ∧ W.cell? ⟨g, j * 6 + 2, none⟩ = some (.int .i64 (t.fr : Int)) ∧ W.cell? ⟨g, j * 6 + 3, none⟩ = some (.int .i64 (t.to : Int)) ∧
    W.cell? ⟨g, j * 6 + 4, none⟩ = some (.int .i64 (t.ln : Int)) ∧ W.cell? ⟨g, j * 6 + 5, none⟩ = some (.slice aj t.ps.length cj) ∧ Reads W ok (.slice aj t.ps.length cj) t.ps := by
  intro j t hj
  cases h with
  | empty => simp at hj
  | row g cap l vs h1 h2 h3 h4 =>
    have hr := h4 j t hj
    obtain ⟨aj, cj, e⟩ := reads_slice hr
    have k := h3 j t hj
    rw [e] at k hr
    exact ⟨g, _, cap, aj, cj, rfl, h2, h1, k 0 _ rfl, k 1 _ rfl, k 2 _ rfl, k 3 _ rfl, k 4 _ rfl, k 5 _ rfl, hr⟩

set_option maxRecDepth 100000 in
set_option maxHeartbeats 8000000 in
theorem parse_any (S : List UInt8) (w : World) (hS : S.length ≤ 9000) (hM : MaxL w) :
    Calls Tryz.prog 5 #[.string ⟨S.toArray⟩] w fun e w' => ∃ v, e = .returned v ∧ PartRes (partF S 7 0 0 S.length).1 v w.heap.size w' ∧ Below w.heap.size w w' := by
  have hts := text_size S
  have hGM : GM < w.heap.size := by
    obtain ⟨m, hm⟩ := hM
    rcases Nat.lt_or_ge GM w.heap.size with h' | h'
    · exact h'
    · simp [World.cell?, Array.getElem?_eq_none h'] at hm
  obtain ⟨w2, hw2⟩ : ∃ w2 : World, ((w.alloc (.cells zeroC 25)).alloc (.cells #[.string ⟨S.toArray⟩, .int .i64 0] 45)) = w2 := ⟨_, rfl⟩
  have b2 : Below w.heap.size w w2 := by rw [← hw2]; exact ((Below.refl _ _).alloc (Nat.le_refl _) _).alloc (by rw [alloc_size]; omega) _
  have sz2 : w2.heap.size = w.heap.size + 2 := by rw [← hw2, alloc_size, alloc_size]
  have hM2 : MaxL w2 := hM.below b2
  have z2 : w2.heap[w.heap.size]? = some (.cells zeroC 25 (0, 0)) := by rw [← hw2]; exact alloc_at (World.heap_alloc_new _ _)
  have p2 : ParsAt w2 (w.heap.size + 1) S 0 := by
    rw [← hw2]
    have := World.heap_alloc_new (w.alloc (.cells zeroC 25)) (.cells #[.string ⟨S.toArray⟩, .int .i64 0] 45)
    rw [alloc_size] at this
    exact this
  have hcp : ∀ (W : World), ParsAt W (w.heap.size + 1) S 0 → MaxL W → Calls Tryz.prog 13 #[.pointer (some ⟨w.heap.size + 1, 0, none⟩), .int .i64 0, .int .i64 (S.length : Int), .int .i64 0] W fun e w' => ∃ v, e = .returned v ∧ PartRes (partF S 7 0 0 S.length).1 v W.heap.size w' ∧ ParsAt w' (w.heap.size + 1) S (partF S 7 0 0 S.length).2 ∧ ButAt (w.heap.size + 1) W.heap.size W w' :=
    fun W hp hm => part_any S hS 7 0 0 S.length (w.heap.size + 1) 0 W (by omega) (by omega) (Nat.zero_le _) (Nat.le_refl _) (by omega) hp (by omega) hm
  generalize (partF S 7 0 0 S.length).2 = n2 at hcp
  generalize (partF S 7 0 0 S.length).1 = R at hcp
  have B2 := Lib.hid b2
  have S2 := Lib.hid sz2
  cases R with
  | none =>
    have cP : Calls Tryz.prog 13 #[.pointer (some ⟨w.heap.size + 1, 0, none⟩), .int .i64 0, .int .i64 (S.length : Int), .int .i64 0] w2 fun e w' => e = .returned (.tuple #[.agg zeroC, .iface 26 (.int .i64 4)]) ∧ ButAt (w.heap.size + 1) w2.heap.size w2 w' := by
      refine (hcp w2 p2 hM2).mono ?_
      rintro e w' ⟨v, rfl, h1, _, h3⟩
      have h1' : v = .tuple #[.agg zeroC, .iface 26 (.int .i64 4)] := h1
      exact ⟨by rw [h1'], h3⟩
    clear hcp b2 sz2
    subst hw2
    go_enter Tryz.func5, Tryz.ntmps5
    go_wp2_with (go_at_call 13; with_reducible refine cP.mono ?_; rintro e w6 ⟨rfl, h6⟩; have z6 := (h6.block w.heap.size (by rw [alloc_size, alloc_size]; omega) (by omega)).trans z2; have u0 := (six_cells z6).1; have u1 := (six_cells z6).2.1; have u2 := (six_cells z6).2.2.1; have u3 := (six_cells z6).2.2.2.1; have u4 := (six_cells z6).2.2.2.2.1; have u5 := (six_cells z6).2.2.2.2.2; have fz := Lib.frozen_of_heap z6)
    refine bodyPost_ret (results_row_tmp (P := Tryz.prog) rfl _ _ w.heap.size _ _ _ _ rfl (set_six z6 _ _ _ _ _ _) Tryz.underlying25 rfl part_size) rfl ?_
    refine ⟨_, rfl, rfl, ?_⟩
    exact (six_but ((ButAt.of B2.out).trans (h6.mono (by rw [alloc_size, alloc_size]; omega))) (Nat.le_refl _) _ _ _ _ _ _).below (by omega)
  | some p =>
    have cP : Calls Tryz.prog 13 #[.pointer (some ⟨w.heap.size + 1, 0, none⟩), .int .i64 0, .int .i64 (S.length : Int), .int .i64 0] w2 fun e w' => ∃ aq cq, e = .returned (.tuple #[.agg #[.string ⟨p.ty.toArray⟩, .string ⟨p.bd.toArray⟩, .int .i64 (p.fr : Int), .int .i64 (p.to : Int), .int .i64 (p.ln : Int), .slice aq p.ps.length cq], .nilIface]) ∧ Reads w' (fun j => w2.heap.size ≤ j) (.slice aq p.ps.length cq) p.ps ∧ ButAt (w.heap.size + 1) w2.heap.size w2 w' := by
      refine (hcp w2 p2 hM2).mono ?_
      rintro e w' ⟨v, rfl, ⟨pv, h1, h2⟩, _, h3⟩
      obtain ⟨aq, cq, rfl⟩ := reads_slice h2
      exact ⟨aq, cq, by rw [h1], h2, h3⟩
    clear hcp b2 sz2
    subst hw2
    go_enter Tryz.func5, Tryz.ntmps5
    go_wp2_with (go_at_call 13; with_reducible refine cP.mono ?_; rintro e w6 ⟨aq, cq, rfl, hrd, h6⟩; have z6 := (h6.block w.heap.size (by rw [alloc_size, alloc_size]; omega) (by omega)).trans z2; have u0 := (six_cells z6).1; have u1 := (six_cells z6).2.1; have u2 := (six_cells z6).2.2.1; have u3 := (six_cells z6).2.2.2.1; have u4 := (six_cells z6).2.2.2.2.1; have u5 := (six_cells z6).2.2.2.2.2; have fz := Lib.frozen_of_heap z6)
    refine bodyPost_ret (results_row_tmp (P := Tryz.prog) rfl _ _ w.heap.size _ _ _ _ rfl (set_six z6 _ _ _ _ _ _) Tryz.underlying25 rfl part_size) rfl ?_
    refine ⟨_, rfl, ⟨_, rfl, reads_keep hrd (by rw [six_size]; exact Nat.le_refl _) (fun j hj _ => six_heap w6 _ _ _ _ _ _ j ?_) (fun j hj _ => ?_)⟩, (six_but ((ButAt.of B2.out).trans (h6.mono (by rw [alloc_size, alloc_size]; omega))) (Nat.le_refl _) _ _ _ _ _ _).below (by omega)⟩
    · have hj2 := hj
      rw [alloc_size, alloc_size] at hj2
      omega
    · have hj2 := hj
      rw [alloc_size, alloc_size] at hj2
      omega

theorem cnt_take {f : PT → Nat} {l : List PT} {k : Nat} {q : PT} (h : l[k]? = some q) : sumL f (l.take (k + 1)) = sumL f (l.take k) + f q := by
  rw [List.take_add_one, h]
  exact sumL_snoc f _ q
theorem sum_take_le (f : PT → Nat) : ∀ (l : List PT) (k : Nat), sumL f (l.take k) ≤ sumL f l
  | [], k => by simp [sumL]
  | q :: l, 0 => Nat.zero_le _
  | q :: l, k + 1 => by
    have := sum_take_le f l k
    rw [List.take_succ_cons, sumL, sumL]; omega


end Go.Proofs.YtmjfhhladicacaaGreatDoor
