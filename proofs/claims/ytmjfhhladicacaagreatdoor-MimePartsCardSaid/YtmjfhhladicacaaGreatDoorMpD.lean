/- The walk over the reference's ParseParts: it returns what the plain function says. Conditions: bytealg.MaxLen and letterboxref.Fine lie as the program's text lays them. -/
import Derived.Test.YtmjfhhladicacaaGreatDoorMpC
import Derived.Test.YtmjfhhladicacaaGreatDoorMimeE
namespace Go.Proofs.YtmjfhhladicacaaGreatDoor
open Go.RowKit Go.Shelf

/-- what the reference's ParseParts returns -/
def PartResE (r : Option PT) (v : Value) (lo : Nat) (W : World) : Prop :=
  match r with
  | none => v = .tuple #[.agg zeroC, .int .i64 4]
  | some p => ∃ pv, v = .tuple #[.agg #[.string ⟨p.ty.toArray⟩, .string ⟨p.bd.toArray⟩, .int .i64 (p.fr : Int), .int .i64 (p.to : Int), .int .i64 (p.ln : Int), pv], .int .i64 0] ∧ Reads W (fun j => lo ≤ j) pv p.ps

set_option maxRecDepth 100000 in
set_option maxHeartbeats 8000000 in
theorem rparse_any (S : List UInt8) (w : World) (hS : S.length ≤ 9000) (hM : MaxL w) (hFi : FineG w) :
    Calls Tryz.prog 4 #[.string ⟨S.toArray⟩] w fun e w' => ∃ v, e = .returned v ∧ PartResE (partF S 7 0 0 S.length).1 v w.heap.size w' ∧ Below w.heap.size w w' := by
  have hts := text_size S
  have hGM : GM < w.heap.size := by
    obtain ⟨m, hm⟩ := hM
    rcases Nat.lt_or_ge GM w.heap.size with h' | h'
    · exact h'
    · simp [World.cell?, Array.getElem?_eq_none h'] at hm
  have hGF : 0 < w.heap.size := by
    rcases Nat.lt_or_ge 0 w.heap.size with h' | h'
    · exact h'
    · have := hFi.1
      simp [World.cell?, Array.getElem?_eq_none h'] at this
  obtain ⟨w2, hw2⟩ : ∃ w2 : World, ((w.alloc (.cells zeroC 25)).alloc (.cells #[.string ⟨S.toArray⟩, .int .i64 0] 41)) = w2 := ⟨_, rfl⟩
  have b2 : Below w.heap.size w w2 := by rw [← hw2]; exact ((Below.refl _ _).alloc (Nat.le_refl _) _).alloc (by rw [alloc_size]; omega) _
  have sz2 : w2.heap.size = w.heap.size + 2 := by rw [← hw2, alloc_size, alloc_size]
  have hM2 : MaxL w2 := hM.below b2
  have hF2 : FineG w2 := hFi.below b2
  have z2 : w2.heap[w.heap.size]? = some (.cells zeroC 25 (0, 0)) := by rw [← hw2]; exact alloc_at (World.heap_alloc_new _ _)
  have p2 : ParsR w2 (w.heap.size + 1) S 0 := by
    rw [← hw2]
    have := World.heap_alloc_new (w.alloc (.cells zeroC 25)) (.cells #[.string ⟨S.toArray⟩, .int .i64 0] 41)
    rw [alloc_size] at this
    exact this
  have hcp : ∀ (W : World), ParsR W (w.heap.size + 1) S 0 → MaxL W → FineG W → Calls Tryz.prog 12 #[.pointer (some ⟨w.heap.size + 1, 0, none⟩), .int .i64 0, .int .i64 (S.length : Int), .int .i64 0] W fun e w' => ∃ v, e = .returned v ∧ PartResR (partF S 7 0 0 S.length).1 v W.heap.size w' ∧ ParsR w' (w.heap.size + 1) S (partF S 7 0 0 S.length).2 ∧ ButAt (w.heap.size + 1) W.heap.size W w' :=
    fun W hp hm hf => rpart_any S hS 7 0 0 S.length (w.heap.size + 1) 0 W (by omega) (by omega) (Nat.zero_le _) (Nat.le_refl _) (by omega) hp (by omega) (by omega) hm hf
  generalize (partF S 7 0 0 S.length).2 = n2 at hcp
  generalize (partF S 7 0 0 S.length).1 = R at hcp
  have B2 := Lib.hid b2
  have S2 := Lib.hid sz2
  cases R with
  | none =>
    have cP : Calls Tryz.prog 12 #[.pointer (some ⟨w.heap.size + 1, 0, none⟩), .int .i64 0, .int .i64 (S.length : Int), .int .i64 0] w2 fun e w' => e = .returned (.tuple #[.agg zeroC, .bool false]) ∧ ButAt (w.heap.size + 1) w2.heap.size w2 w' := by
      refine (hcp w2 p2 hM2 hF2).mono ?_
      rintro e w' ⟨v, rfl, h1, _, h3⟩
      have h1' : v = .tuple #[.agg zeroC, .bool false] := h1
      exact ⟨by rw [h1'], h3⟩
    clear hcp b2 sz2
    subst hw2
    go_enter Tryz.func4, Tryz.ntmps4
    go_wp2_with (go_at_call 12; with_reducible refine cP.mono ?_; rintro e w6 ⟨rfl, h6⟩; have z6 := (h6.block w.heap.size (by rw [alloc_size, alloc_size]; omega) (by omega)).trans z2; have z7 := alloc_at (o := .cells zeroC 25) z6; have u0 := (six_cells z7).1; have u1 := (six_cells z7).2.1; have u2 := (six_cells z7).2.2.1; have u3 := (six_cells z7).2.2.2.1; have u4 := (six_cells z7).2.2.2.2.1; have u5 := (six_cells z7).2.2.2.2.2; have fz := Lib.frozen_of_heap z7)
    refine bodyPost_ret (results_row_tmp (P := Tryz.prog) rfl _ _ w.heap.size _ _ _ _ rfl (set_six z7 _ _ _ _ _ _) Tryz.underlying25 rfl part_size) rfl ?_
    exact ⟨_, rfl, rfl, (six_but (((ButAt.of B2.out).trans (h6.mono (by rw [alloc_size, alloc_size]; omega))).alloc (by have := h6.size; rw [alloc_size, alloc_size] at this; omega) _) (Nat.le_refl _) _ _ _ _ _ _).below (by omega)⟩
  | some p =>
    have cP : Calls Tryz.prog 12 #[.pointer (some ⟨w.heap.size + 1, 0, none⟩), .int .i64 0, .int .i64 (S.length : Int), .int .i64 0] w2 fun e w' => ∃ aq cq, e = .returned (.tuple #[.agg #[.string ⟨p.ty.toArray⟩, .string ⟨p.bd.toArray⟩, .int .i64 (p.fr : Int), .int .i64 (p.to : Int), .int .i64 (p.ln : Int), .slice aq p.ps.length cq], .bool true]) ∧ Reads w' (fun j => w2.heap.size ≤ j) (.slice aq p.ps.length cq) p.ps ∧ ButAt (w.heap.size + 1) w2.heap.size w2 w' := by
      refine (hcp w2 p2 hM2 hF2).mono ?_
      rintro e w' ⟨v, rfl, ⟨pv, h1, h2⟩, _, h3⟩
      obtain ⟨aq, cq, rfl⟩ := reads_slice h2
      exact ⟨aq, cq, by rw [h1], h2, h3⟩
    clear hcp b2 sz2
    subst hw2
    go_enter Tryz.func4, Tryz.ntmps4
    go_wp2_with (go_at_call 12; with_reducible refine cP.mono ?_; rintro e w6 ⟨aq, cq, rfl, hrd, h6⟩; have z6 := (h6.block w.heap.size (by rw [alloc_size, alloc_size]; omega) (by omega)).trans z2; have z7 := alloc_at (o := .cells #[.string ⟨p.ty.toArray⟩, .string ⟨p.bd.toArray⟩, .int .i64 (p.fr : Int), .int .i64 (p.to : Int), .int .i64 (p.ln : Int), .slice aq p.ps.length cq] 25) z6; have u0 := (six_cells z7).1; have u1 := (six_cells z7).2.1; have u2 := (six_cells z7).2.2.1; have u3 := (six_cells z7).2.2.2.1; have u4 := (six_cells z7).2.2.2.2.1; have u5 := (six_cells z7).2.2.2.2.2; have fz := Lib.frozen_of_heap z7)
    refine bodyPost_ret (results_row_tmp (P := Tryz.prog) rfl _ _ w.heap.size _ _ _ _ rfl (set_six z7 _ _ _ _ _ _) Tryz.underlying25 rfl part_size) rfl ?_
    refine ⟨_, rfl, ⟨_, rfl, reads_keep hrd (by rw [six_size, alloc_size]; exact Nat.le_succ _) (fun j hj hj2 => (six_heap _ _ _ _ _ _ _ j ?_).trans (Below.heap_alloc _ _ _ hj2)) (fun j hj _ => ?_)⟩, (six_but (((ButAt.of B2.out).trans (h6.mono (by rw [alloc_size, alloc_size]; omega))).alloc (by have := h6.size; rw [alloc_size, alloc_size] at this; omega) _) (Nat.le_refl _) _ _ _ _ _ _).below (by omega)⟩
    · have hj2 := hj
      rw [alloc_size, alloc_size] at hj2
      omega
    · have hj2 := hj
      rw [alloc_size, alloc_size] at hj2
      omega
end Go.Proofs.YtmjfhhladicacaaGreatDoor
