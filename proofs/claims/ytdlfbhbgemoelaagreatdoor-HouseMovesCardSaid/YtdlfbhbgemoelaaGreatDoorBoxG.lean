/- The walk over a box's Append where it puts a letter behind all others. Condition: flags.system lies as the program's text lays it. -/
import Derived.Test.YtdlfbhbgemoelaaGreatDoorBoxF
import Derived.ArgAppend
namespace Go.Proofs.YtdlfbhbgemoelaaGreatDoor
open Go.RowKit Go.Shelf Go.Sort

theorem FlagG.kept {w w' : World} {S : Nat → Prop} (h : FlagG w) (hk : Kept S w w') (hs : ¬ S 4) : FlagG w' := h.elim fun T h => ⟨T, hk.obj h hs⟩
theorem app_inv {b : BoxP} {l : List (List UInt8)} {day : Int} {text : List UInt8} {n : Int} (h : (appB b l day text).1 = .inr n) :
    ∃ f, setF l = .inr f ∧ text.length ≤ 2000 ∧ 0 ≤ day ∧ day ≤ 2147483647 ∧ b.ls.length < 60 ∧ b.next < 2147483647 ∧ n = b.next ∧ (appB b l day text).2 = { b with next := b.next + 1, ls := b.ls ++ [⟨b.next, f, day, text⟩] } := by
  unfold appB maxN at *
  by_cases h1 : 2000 < text.length
  · rw [if_pos h1] at h; cases h
  · rw [if_neg h1] at h ⊢
    cases hs : setF l with
    | inl m => rw [hs] at h; cases h
    | inr f =>
      rw [hs] at h
      simp only at h ⊢
      by_cases h2 : day < 0 ∨ 2147483647 < day
      · rw [if_pos h2] at h; cases h
      · rw [if_neg h2] at h ⊢
        by_cases h3 : 60 ≤ b.ls.length ∨ 2147483647 ≤ b.next
        · rw [if_pos h3] at h; cases h
        · rw [if_neg h3] at h ⊢
          refine ⟨f, rfl, by omega, by omega, by omega, by omega, by omega, ?_, rfl⟩
          cases h; rfl

set_option maxRecDepth 100000 in
set_option maxHeartbeats 4000000 in
theorem app_good (N B : Nat) (b : BoxP) (l : List (List UInt8)) (fv : Value) (day : Int) (text : List UInt8) (n : Int) (w : World) (hb : BoxS N w B b) (hN : N ≤ B) (hf : SRow w fv l) (hl : Short l) (hG : FlagG w) (hok : (appB b l day text).1 = .inr n) (hnx : 0 ≤ b.next) :
    Calls Tryz.prog 25 #[.pointer (some ⟨B, 0, none⟩), fv, .int .i64 day, .string ⟨text.toArray⟩] w fun e w' => e = .returned (.tuple #[.int .i64 n, .nilIface]) ∧ BoxS N w' B (appB b l day text).2 ∧ Kept (fun k => k = B) w w' := by
  obtain ⟨f, hs, ht, hd0, hd1, hll, hnn, rfl, hbox⟩ := app_inv hok
  rw [hbox]
  have hsp := fun (w' : World) (hb : BoxAt w' B b) => spares_box hb hN
  obtain ⟨lv, zs, hB, hzs, hz, hsv, hsz⟩ := hb
  have hzl : zs.length < 60 := by rw [← hzs, List.length_map] at hll; exact hll
  have cS := set_is2 hs fv w hf hl hG
  obtain ⟨i0, hi, hi0, hi1, hi2⟩ := info_parts let_info
  have hz' := hz
  obtain ⟨ao, cap, rfl, hcap, ⟨hcm, hnone⟩, hfl, hcell⟩ := hz'
  have hBl : B < w.heap.size := (Array.getElem?_eq_some_iff.1 hB).1
  have d1 : w.cell? ⟨B, 1, none⟩ = some (.int .i64 b.next) := by rw [Lib.cell_of_heap hB]; rfl
  have d2 : w.cell? ⟨B, 2, none⟩ = some (.slice ao zs.length cap) := by rw [Lib.cell_of_heap hB]; rfl
  have hts := text_size text
  have h2z : ¬ ((2000 : Int) < (text.length : Int)) := by omega
  have hd0' : ¬ day < 0 := by omega
  have hd1' : ¬ 2147483647 < day := by omega
  have hq1 : ¬ ((60 : Int) ≤ (zs.length : Int)) := by omega
  have hq2 : ¬ (2147483647 ≤ b.next) := by omega
  have cC := fun W => clip_any ao zs.length cap W hcap hcm hnone
  have HC := Lib.hid hcell
  have HF := Lib.hid hfl
  have HB := Lib.hid hB
  have HZ := Lib.hid hz
  have HL := Lib.hid (cellsL_len zs)
  have hnone2 : ao = none → zs.length = 0 ∧ zs.length = 0 := fun e => by have := hnone e; omega
  have hpre : ∀ w1 sa sc, Below w.heap.size w w1 → Hid (∀ p, ao = some p → ∀ j u, (cellsL zs)[j]? = some u → (w1.alloc (.cells #[.int .i64 b.next, .slice sa f.length sc, .int .i64 day, .string ⟨text.toArray⟩] 76)).cell? (p.add j) = some u) ∧
      Hid (∀ j u, (cells1 (⟨b.next, f, day, text⟩, .slice sa f.length sc))[j]? = some u → (w1.alloc (.cells #[.int .i64 b.next, .slice sa f.length sc, .int .i64 day, .string ⟨text.toArray⟩] 76)).cell? ((⟨w1.heap.size, 0, none⟩ : Addr).add j) = some u) ∧
      Hid (∀ u ∈ cells1 (⟨b.next, f, day, text⟩, .slice sa f.length sc), u.oneCell' = true) := by
    intro w1 sa sc h
    refine ⟨fun p hp j u hj => ?_, fun j u hj => ?_, fun u hu => ?_⟩
    · obtain ⟨b', off, e1, e2, c⟩ := hcell j u hj
      rw [hp] at e1
      cases e1
      rw [add_pl]
      exact ((h.alloc h.size _).cell e2).trans c
    · rw [add_pl, Nat.zero_add, Lib.cell_of_heap (World.heap_alloc_new w1 _)]
      simpa [cells1] using hj
    · simp only [cells1, List.mem_cons, List.not_mem_nil, or_false] at hu
      rcases hu with rfl | rfl | rfl | rfl <;> rfl
  have HPRE := Lib.hid hpre
  have HN2 := Lib.hid hnone2
  clear hok hbox hs hcell hfl hB hz ht hpre hnone2 hcap hnone
  go_enter Tryz.func25, Tryz.ntmps25
  go_wp2_with (first
    | (go_at_call 48; go_loud ((with_reducible refine cS.mono ?_); rintro e w1 ⟨sa, sc, rfl, HT, h⟩; have d1 := (h.cell (p := ⟨B, 1, none⟩) hBl).trans d1; have d2 := (h.cell (p := ⟨B, 2, none⟩) hBl).trans d2; obtain ⟨HO, HN, H1⟩ := HPRE.out w1 sa sc h))
    | (go_at_call 49; with_reducible refine (cC _).mono ?_; rintro e w2 ⟨rfl, hw⟩; subst hw)
    | (at_builtin; go_must (refine wpList_append_grows _ rfl _ _ 46 rfl 76 i0 _ 4 56 Tryz.underlying46 hi hi0 hi1 hi2 rfl (by decide) ao zs.length zs.length (cellsL zs) rfl HN2.out HL.out HO.out ⟨w1.heap.size, 0, none⟩ 1 1 (cells1 (⟨b.next, f, day, text⟩, .slice sa f.length sc)) rfl rfl HN.out H1.out ?g1 ?g2 ?g3 ?_)))
  case g1 => omega
  case g2 => unfold maxLen; omega
  case g3 => omega
  intro v' w2 hown hgrow
  obtain ⟨pv, cv, rfl⟩ : ∃ pv cv, v' = .slice (some ⟨pv, 0, none⟩) (zs.length + 1) cv := by
    rcases hown.2 with ⟨_, h0⟩ | ⟨g, c, cur, e, _⟩
    · omega
    · exact ⟨g, c, e⟩
  have y2 : Below w.heap.size w w2 := (h.alloc h.size _).grown hgrow (by rw [alloc_size]; exact Nat.le_succ_of_le h.size) (fun k e => by cases e)
  have y12 : Below w1.heap.size w1 w2 := ((Below.refl _ w1).alloc (Nat.le_refl _) _).grown hgrow (by rw [alloc_size]; exact Nat.le_succ _) (fun k e => by cases e)
  have hB2 : w2.heap[B]? = some (.cells #[.int .i64 b.valid, .int .i64 b.next, .slice ao zs.length cap] 48 (0, 0)) := (y2.block B hBl).trans HB.out
  have HB2 := Lib.hid hB2
  have f1 : w2.frozen? ⟨B, 1, none⟩ = false := Lib.frozen_of_heap hB2 1
  have f2 : w2.frozen? ⟨B, 2, none⟩ = false := Lib.frozen_of_heap hB2 2
  have d1 := (three_cells hB2).2.1
  have d2 := (three_cells hB2).2.2
  have hown2 : w2.ownsRow 0 76 4 (.slice (some ⟨pv, 0, none⟩) (zs.length + 1) cv) (zs ++ [((⟨b.next, f, day, text⟩ : Let), Value.slice sa f.length sc)]).length (cellsL (zs ++ [((⟨b.next, f, day, text⟩ : Let), Value.slice sa f.length sc)])) := by
    rw [cellsL_app, List.length_append]
    refine ⟨by rw [List.length_append, cellsL_len, cellsL_len]; simp; omega, ?_⟩
    rcases hown.2 with ⟨e1, h0⟩ | ⟨g, c, cur, e1, e2, e3⟩
    · cases e1
    · exact Or.inr ⟨g, c, cur, e1, Nat.zero_le _, e3⟩
  have hX : XRow N w2 (.slice (some ⟨pv, 0, none⟩) (zs.length + 1) cv) (zs ++ [((⟨b.next, f, day, text⟩ : Let), Value.slice sa f.length sc)]) := by
    refine ⟨zrow_owns hown2 ?_, safe_owns hown2, ?_⟩
    · intro z hz
      rcases List.mem_append.1 hz with h' | h'
      · exact (HF.out z h').below y2
      · obtain rfl := List.mem_singleton.1 h'
        exact HT.out.1.below y12
    · intro z hz
      rcases List.mem_append.1 hz with h' | h'
      · exact (hsz z h').below y2
      · obtain rfl := List.mem_singleton.1 h'
        exact (safe_tag HT.out.2).below y12
  have HX := Lib.hid hX
  have hsp2 := Lib.hid (hsp w2 ⟨_, hB2, hzs ▸ lrow_of (HZ.out.below y2)⟩)
  clear hX hown2 hown hB2 HO HN H1 HC cS cC
  go_wp2_with fail
  go_ret2
  refine ⟨rfl, ⟨_, _, set3_1 (set3_2 HB2.out), ?_, HX.out.kept (Kept.setB (Kept.setB (Kept.refl _ w2) _) _) hsp2.out⟩, Kept.setB (Kept.setB (kept_below y2) _) _⟩
  rw [List.map_append, hzs]
  rfl
end Go.Proofs.YtdlfbhbgemoelaaGreatDoor
