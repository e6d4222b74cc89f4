/- The walk over a house's Delete. Conditions: utf8's two tables and bytealg.MaxLen lie as the program's text lays them. -/
import Derived.Test.YtnhcccakgkoggaaGreatDoorHouF
namespace Go.Proofs.YtnhcccakgkoggaaGreatDoor
open Go.RowKit Go.Shelf Go.Sort Go.Maps

theorem hget_inl {L : List Bs} {s : Bs} {m : Nat} (h : hgetF L s = .inl m) : m = 1 ∨ m = 7 := by
  unfold hgetF at h
  split at h
  · cases h; exact Or.inl rfl
  · split at h
    · cases h
    · cases h; exact Or.inr rfl
theorem hget_inr {L : List Bs} {s n : Bs} (h : hgetF L s = .inr n) : hnameF s = some n ∧ n ∈ L := by
  unfold hgetF at h
  split at h
  · cases h
  · rename_i n' hn
    split at h
    · rename_i hm; cases h; exact ⟨hn, hm⟩
    · cases h
set_option maxRecDepth 100000 in
set_option maxHeartbeats 4000000 in
theorem hdelete_any (N H mb mw : Nat) (h : HouseC) (s : Bs) (w : World) (hS : HouseS N w H mb mw h) (hs : s.length ≤ 1000000) (hm : h.L.length ≤ 100000) (hG : HG w) :
    Calls Tryz.prog 14 #[.pointer (some ⟨H, 0, none⟩), .string ⟨s.toArray⟩] w (DeletedS N w H mb mw h (hdeleteF h.L s)) := by
  have cG := hget_any N H mb mw h s w hS hs hG
  unfold hdeleteF
  cases hg : hgetF h.L s with
  | inl m =>
    rw [hg] at cG
    have cG : Calls Tryz.prog 27 #[.pointer (some ⟨H, 0, none⟩), .string ⟨s.toArray⟩] w fun e w' => e = .returned (.tuple #[.pointer none, .iface 32 (.int .i64 (m : Int))]) ∧ Below w.heap.size w w' := cG
    clear hg hS
    show Calls _ _ _ _ fun e w' => e = .returned (.iface 32 (.int .i64 (m : Int))) ∧ Below w.heap.size w w'
    go_enter Tryz.func14, Tryz.ntmps14
    go_wp2_with (go_at_call 27; ((with_reducible refine cG.mono ?_); rintro e w1 ⟨rfl, hb1⟩))
    go_ret
    exact ⟨rfl, hb1⟩
  | inr n =>
    rw [hg] at cG
    obtain ⟨hn, hmem⟩ := hget_inr hg
    have hl := (hnameF_len hn).1
    have cG : Calls Tryz.prog 27 #[.pointer (some ⟨H, 0, none⟩), .string ⟨s.toArray⟩] w fun e w' => e = .returned (.tuple #[.pointer (some ⟨(h.box n).blk, 0, none⟩), .nilIface]) ∧ Below w.heap.size w w' := cG
    have cN : ∀ W, HG W → Calls Tryz.prog 22 #[.string ⟨s.toArray⟩] W fun e w' => e = .returned (.tuple #[.string ⟨n.toArray⟩, .nilIface]) ∧ Below W.heap.size W w' := fun W hW => by
      have := hname_any s W hs hW
      rw [hn] at this
      exact this
    have cI := fun W (hW : Below w.heap.size w W) => hinside_any N H mb mw h n W (hS.below hW) hm (by omega)
    have HS := Lib.hid hS
    have HG' := Lib.hid hG
    clear hg hn hS hmem hG
    by_cases hin : n = inboxB
    · show Calls _ _ _ _ (DeletedS N w H mb mw h (if n = inboxB ∨ hinsideF h.L n ≠ [] then .inl 6 else .inr n))
      rw [if_pos (Or.inl hin)]
      show Calls _ _ _ _ fun e w' => e = .returned (.iface 32 (.int .i64 6)) ∧ Below w.heap.size w w'
      obtain rfl : n = [73, 78, 66, 79, 88] := hin
      clear cI
      go_enter Tryz.func14, Tryz.ntmps14
      go_wp2_with (first
        | (go_at_call 27; ((with_reducible refine cG.mono ?_); rintro e w1 ⟨rfl, hb1⟩))
        | (go_at_call 22; ((with_reducible refine (cN _ (HG'.out.below hb1)).mono ?_); rintro e w2 ⟨rfl, hb2⟩; have hb2 := hb1.trans (hb2.mono hb1.size))))
      go_ret
      exact ⟨rfl, hb2⟩
    · have hgb : (n == [73, 78, 66, 79, 88]) = false := by rw [beq_eq_false_iff_ne]; exact hin
      by_cases hne : hinsideF h.L n ≠ []
      · show Calls _ _ _ _ (DeletedS N w H mb mw h (if n = inboxB ∨ hinsideF h.L n ≠ [] then .inl 6 else .inr n))
        rw [if_pos (Or.inr hne)]
        show Calls _ _ _ _ fun e w' => e = .returned (.iface 32 (.int .i64 6)) ∧ Below w.heap.size w w'
        have hpos : 0 < (hinsideF h.L n).length := List.length_pos_iff.2 hne
        have hle : (hinsideF h.L n).length ≤ h.L.length := List.length_filter_le _ _
        have hpz : (0 : Int) < ((hinsideF h.L n).length : Int) := by omega
        generalize hinsideF h.L n = I at cI hpos hpz hle
        clear hin hne
        go_enter Tryz.func14, Tryz.ntmps14
        go_wp2_with (first
          | (go_at_call 27; ((with_reducible refine cG.mono ?_); rintro e w1 ⟨rfl, hb1⟩))
          | (go_at_call 22; ((with_reducible refine (cN _ (HG'.out.below hb1)).mono ?_); rintro e w2 ⟨rfl, hb2⟩; have hb2 := hb1.trans (hb2.mono hb1.size)))
          | (go_at_call 28; ((with_reducible refine (cI _ hb2).mono ?_); rintro e w3 ⟨v, rfl, hrow, hb3⟩; have hb3 := hb2.trans (hb3.mono hb2.size); obtain ⟨ao, cap, rfl⟩ := owns_val hrow; have HROW := Lib.hid hrow; clear hrow)))
        go_ret
        exact ⟨rfl, hb3⟩
      · show Calls _ _ _ _ (DeletedS N w H mb mw h (if n = inboxB ∨ hinsideF h.L n ≠ [] then .inl 6 else .inr n))
        rw [if_neg (fun e => e.elim hin hne)]
        have hnil : hinsideF h.L n = [] := Decidable.byContradiction hne
        rw [hnil] at cI
        have hfin : ∀ W W', Below w.heap.size w W → PM W' mb (delS n h.L) (fun x => (h.box x).blk) → Kept (fun k => k = mb) W W' → DeletedS N w H mb mw h (.inr n) (.returned .nilIface) W' := fun W W' h1 h2 h3 => ⟨rfl, house_del (HS.out.below h1) h2 h3, (kept_below h1).trans h3⟩
        have hcl : ∀ W, Below w.heap.size w W → W.cell? ⟨H, 0, none⟩ = some (.map (some mb)) ∧ Hid (PM W mb h.L (fun x => (h.box x).blk)) := fun W hW => ⟨(three_cells (HS.out.below hW).cells).1, (HS.out.below hW).boxes⟩
        have HFIN := Lib.hid hfin
        clear hin hne hnil hfin
        go_enter Tryz.func14, Tryz.ntmps14
        go_wp2_with (first
          | (go_at_call 27; ((with_reducible refine cG.mono ?_); rintro e w1 ⟨rfl, hb1⟩))
          | (go_at_call 22; ((with_reducible refine (cN _ (HG'.out.below hb1)).mono ?_); rintro e w2 ⟨rfl, hb2⟩; have hb2 := hb1.trans (hb2.mono hb1.size)))
          | (go_at_call 28; ((with_reducible refine (cI _ hb2).mono ?_); rintro e w3 ⟨v, rfl, hrow, hb3⟩; have hb3 := hb2.trans (hb3.mono hb2.size); obtain ⟨ao, cap, rfl⟩ := owns_val hrow; obtain ⟨hc3, hP3⟩ := hcl _ hb3; have HROW := Lib.hid hrow; clear hrow))
          | (at_delete; refine wpList_delete_pm _ rfl _ _ rfl mb h.L _ rfl hP3.out n rfl (by omega) ?_; intro w4 hP4 hK4))
        go_ret
        exact HFIN.out _ _ hb3 hP4 hK4
end Go.Proofs.YtnhcccakgkoggaaGreatDoor
