/- The walks over strings.SplitSeq at a comma: what it gives are the texts between commas. Condition: bytealg.MaxLen lies. -/
import Derived.Test.YtgblgbhfgiajiaaGreatDoorIter
import Derived.Test.YtgblgbhfgiajiaaGreatDoorShelf
import Derived.Test.YtgblgbhfgiajiaaGreatDoorKit2
import Derived.Test.YtgblgbhfgiajiaaGreatDoorPSeq
import Derived.Test.YtgblgbhfgiajiaaGreatDoorText
import Derived.Shelf.Abstract
import Derived.Shelf.RegionOpen
import Derived.OwnWalkIn
import Derived.TacticsInMore
import Derived.LoopNIn
import Derived.LoopIn
namespace Go.Proofs.YtgblgbhfgiajiaaGreatDoor
open Go.RowKit Go.Shelf Go.Sort
attribute [local go_sem] Oper.semAt_some
set_option linter.unusedSimpArgs false

/-- how long the text in a cell is -/
def cellLen (w : World) (B : Nat) : Nat := match w.cell? ⟨B, 0, none⟩ with
  | some (.string b) => b.size + 1
  | _ => 0
theorem cellLen_of {w : World} {B : Nat} {s : Txt} (h : w.heap[B]? = some (.cells #[.string ⟨s.toArray⟩] 9 (0, 0))) : cellLen w B = s.length + 1 := by
  unfold cellLen
  rw [Lib.cell_of_heap h]
  show (⟨s.toArray⟩ : ByteArray).size + 1 = _
  rw [text_size]
theorem set1 {w : World} {B : Nat} {u v : Value} {t : TypeId} (h : w.heap[B]? = some (.cells #[u] t (0, 0))) : (w.setCell ⟨B, 0, none⟩ v).heap[B]? = some (.cells #[v] t (0, 0)) := by
  simp only [World.setCell, Array.getElem?_modify, if_pos, h]
  simp
/-- the iterator's three boxes, and the library's bound -/
structure SplitW (B M : Nat) (s : Txt) (w : World) : Prop where
  s0 : w.heap[B]? = some (.cells #[.string ⟨s.toArray⟩] 9 (0, 0))
  s1 : w.heap[B + 1]? = some (.cells #[.string ⟨#[44]⟩] 9 (0, 0))
  s2 : w.heap[B + 2]? = some (.cells #[.int .i64 0] 3 (0, 0))
  max : ∃ m, w.cell? ⟨M, 0, none⟩ = some (.int .i64 m)
/-- which blocks a round keeps -/
def KeptT (B M : Nat) (k : Nat) : Prop := k = M ∨ B ≤ k ∧ k ≤ B + 2
theorem SplitW.keep {B M : Nat} {s : Txt} {w w' : World} (h : SplitW B M s w) (hk : ∀ k, KeptT B M k → w'.heap[k]? = w.heap[k]?) : SplitW B M s w' := by
  refine ⟨(hk _ (Or.inr ⟨by omega, by omega⟩)).trans h.s0, (hk _ (Or.inr ⟨by omega, by omega⟩)).trans h.s1, (hk _ (Or.inr ⟨by omega, by omega⟩)).trans h.s2, ?_⟩
  obtain ⟨m, hm⟩ := h.max
  exact ⟨m, (World.cell?_of_block (w := w) (a := ⟨M, 0, none⟩) (hk _ (Or.inl rfl))).trans hm⟩
theorem SplitW.set {B M : Nat} {s t : Txt} {w : World} (h : SplitW B M s w) (hM : M ≠ B) : SplitW B M t (w.setCell ⟨B, 0, none⟩ (.string ⟨t.toArray⟩)) := by
  refine ⟨set1 h.s0, (Below.heap_setCell _ _ _ _ (by simp)).trans h.s1, (Below.heap_setCell _ _ _ _ (by simp)).trans h.s2, ?_⟩
  obtain ⟨m, hm⟩ := h.max
  exact ⟨m, (World.cell?_of_block (w := w) (a := ⟨M, 0, none⟩) (Below.heap_setCell _ _ _ _ hM)).trans hm⟩
set_option maxRecDepth 100000 in
set_option maxHeartbeats 8000000 in
theorem split1_any (S : Txt) (B N : Nat) (w : World) (hS : S.length ≤ 2000000) (hw : SplitW B 0 S w) (hM : 0 < B) (hN : B + 2 < N) :
    GivesT Tryz.prog 136 #[.pointer (some ⟨B + 1, 0, none⟩), .pointer (some ⟨B, 0, none⟩), .pointer (some ⟨B + 2, 0, none⟩)] B (KeptT B 0) N (commas S) w := by
  intro l J Jx W hsz hW hJset hY h0
  have hW0 : SplitW B 0 S W := hw.keep fun k hk => hW k (by rcases hk with rfl | ⟨_, hk⟩ <;> omega)
  clear hw hW hsz
  obtain ⟨c0, c1, c2⟩ : W.cell? ⟨B, 0, none⟩ = some (.string ⟨S.toArray⟩) ∧ W.cell? ⟨B + 1, 0, none⟩ = some (.string ⟨#[44]⟩) ∧ W.cell? ⟨B + 2, 0, none⟩ = some (.int .i64 0) := ⟨by rw [Lib.cell_of_heap hW0.s0]; rfl, by rw [Lib.cell_of_heap hW0.s1]; rfl, by rw [Lib.cell_of_heap hW0.s2]; rfl⟩
  refine callsIn_of_wp Tryz.func136 rfl trivial ?_ rfl
  simp only [Tryz.ntmps136, List.size_toArray, List.length_cons, List.length_nil, Nat.reduceAdd, Nat.reduceSub, Array.replicate_succ, Array.replicate_zero, List.push_toArray, List.append_toArray, List.nil_append, List.cons_append]
  gi_wp2
  gi_loopw [7, 8] (fun s7 s8 wr => ∃ (pre : List Txt) (r : Txt), r.length ≤ S.length ∧ commas S = pre ++ commas r ∧ SplitW B 0 r wr ∧ J pre wr) (fun s7 s8 wr => cellLen wr B)
  case atStart => exact ⟨[], S, Nat.le_refl _, rfl, hW0, h0⟩
  case round =>
    clear c0 c1 c2 hW0 h0
    obtain ⟨pre, r, hr, hcs, hw, hj⟩ := hrel
    obtain ⟨m, hm⟩ := hw.max
    have hts := text_size r
    obtain ⟨c0, c1, c2⟩ : wr.cell? ⟨B, 0, none⟩ = some (.string ⟨r.toArray⟩) ∧ wr.cell? ⟨B + 1, 0, none⟩ = some (.string ⟨#[44]⟩) ∧ wr.cell? ⟨B + 2, 0, none⟩ = some (.int .i64 0) := ⟨by rw [Lib.cell_of_heap hw.s0]; rfl, by rw [Lib.cell_of_heap hw.s1]; rfl, by rw [Lib.cell_of_heap hw.s2]; rfl⟩
    have cI : Calls Tryz.prog 46 #[.string ⟨r.toArray⟩, .string ⟨#[44]⟩] wr fun e w' => e = .returned (.int .i64 (Lib.index r [44])) ∧ w' = wr := Tryz.strings_Index ⟨r.toArray⟩ ⟨#[44]⟩ m wr (by rw [text_size]; omega) hm
    have hroom := Lib.index_room r [44]
    have hge := Lib.index_ge r [44]
    have hlast := fun h => commas_last (s := r) h
    have hnext := fun i h => commas_next (s := r) (i := i) h
    have HW := Lib.hid hw
    have HC := Lib.hid hcs
    clear hm hw hcs
    generalize Lib.index r [44] = K at cI hroom hge hlast hnext
    by_cases hk : K < 0
    · have HL := Lib.hid (hlast hk)
      clear hlast hnext hroom hge
      obtain ⟨fn, tmps, assign, body, hy, hR⟩ := hY pre r wr (by omega) hj
      gi_wp2_with (refine ⟨trivial, ?_⟩; gi_at_call 46; refine (callsIn_wide.2 cI).mono ?_; rintro e w1 ⟨rfl, hw⟩; rw [hw]; clear hw)
      refine hR.mono ?_
      rintro e W3 (⟨rfl, hJ3, -, -⟩ | ⟨rfl, hJx3⟩)
      · gi_wp2
        go_end0
        exact ⟨⟨_, rfl⟩, Or.inl (by rw [HC.out, HL.out]; exact hJ3)⟩
      · gi_wp2
        go_end0
        exact ⟨⟨_, rfl⟩, Or.inr ⟨_, by rw [HC.out, HL.out]; exact List.prefix_refl _, hJx3⟩⟩
    · obtain ⟨i, rfl⟩ := Int.eq_ofNat_of_zero_le (show 0 ≤ K by omega)
      have hil : i + 1 ≤ r.length := by have := hroom (by omega); simp at this; omega
      have HL := Lib.hid (hnext i rfl)
      clear hlast hnext hroom hge
      have hx : (⟨r.toArray⟩ : ByteArray).extract 0 i = ⟨(r.take i).toArray⟩ := by rw [text_part]; simp
      have hx2 : (⟨r.toArray⟩ : ByteArray).extract (i + 1) r.length = ⟨(r.drop (i + 1)).toArray⟩ := by rw [text_part]; congr 2; rw [List.take_of_length_le (by simp)]
      have z1 : (i : Int) ≤ (r.length : Int) := by omega
      have z2 : (i : Int) + 1 ≤ (r.length : Int) := by omega
      have z3 : ((i : Int) + 1).toNat = i + 1 := by omega
      obtain ⟨fn, tmps, assign, body, hy, hR⟩ := hY pre (r.take i) wr (by rw [List.length_take]; omega) hj
      gi_wp2_with (refine ⟨trivial, ?_⟩; gi_at_call 46; refine (callsIn_wide.2 cI).mono ?_; rintro e w1 ⟨rfl, hw⟩; rw [hw]; clear hw)
      refine hR.mono ?_
      rintro e W3 (⟨rfl, hJ3, hk3, -⟩ | ⟨rfl, hJx3⟩)
      · have hw3 := HW.out.keep hk3
        obtain ⟨d0, d1⟩ : W3.cell? ⟨B, 0, none⟩ = some (.string ⟨r.toArray⟩) ∧ W3.cell? ⟨B + 1, 0, none⟩ = some (.string ⟨#[44]⟩) := ⟨by rw [Lib.cell_of_heap hw3.s0]; rfl, by rw [Lib.cell_of_heap hw3.s1]; rfl⟩
        have f0 := Lib.frozen_of_heap hw3.s0 0
        have HW3 := Lib.hid hw3
        have HS3 := Lib.hid (hw3.set (t := r.drop (i + 1)) (by omega))
        have hm1 := cellLen_of hw3.s0
        have hm2 := cellLen_of HS3.out.s0
        clear hw3 hk3 hx
        gi_wp2
        go_roundw
        case rel => exact ⟨pre ++ [r.take i], r.drop (i + 1), by rw [List.length_drop]; omega, by rw [HC.out, HL.out]; simp, HS3.out, hJset _ _ _ hJ3⟩
        case measure => rw [hm2]; have := cellLen_of HW.out.s0; rw [this, List.length_drop]; omega
      · gi_wp2
        refine bodyPost_ret (results_none rfl _ _ _) rfl ?_
        exact ⟨⟨_, rfl⟩, Or.inr ⟨_, by rw [HC.out, HL.out]; exact ⟨commas (r.drop (i + 1)), by simp⟩, hJx3⟩⟩
end Go.Proofs.YtgblgbhfgiajiaaGreatDoor
