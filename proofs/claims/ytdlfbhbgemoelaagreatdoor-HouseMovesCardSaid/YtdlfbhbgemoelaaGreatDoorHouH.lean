/- The walks over a house's inside, Delete. Conditions: utf8's two tables and bytealg.MaxLen lie as the program's text lays them. The walk over a house's Delete. Conditions: utf8's two tables and bytealg.MaxLen lie as the program's text lays them. The walk over a house's Rename where it is refused. Conditions: utf8's two tables and bytealg.MaxLen lie as the program's text lays them. -/
import Derived.Test.YtdlfbhbgemoelaaGreatDoorHouE
import Derived.Test.YtdlfbhbgemoelaaGreatDoorDelG
import Derived.Test.YtdlfbhbgemoelaaGreatDoorPHouse6
namespace Go.Proofs.YtdlfbhbgemoelaaGreatDoor
open Go.RowKit Go.Shelf Go.Sort Go.Maps

set_option maxRecDepth 100000 in
set_option maxHeartbeats 2000000 in
theorem inside1_any (n s : Bs) (B : Nat) (W : World) (hc : W.cell? ⟨B, 0, none⟩ = some (.string ⟨n.toArray⟩)) (hn : n.length ≤ 1000000) :
    Calls Tryz.prog 61 #[.string ⟨s.toArray⟩, .pointer (some ⟨B, 0, none⟩)] W fun e w' => e = .returned (.bool (!Lib.hasPrefix s (n ++ [47]))) ∧ W = w' := by
  obtain ⟨m, hm⟩ : ∃ m, n ++ [47] = m := ⟨_, rfl⟩
  have hct : (⟨n.toArray⟩ : ByteArray) ++ ⟨#[47]⟩ = ⟨m.toArray⟩ := by rw [← hm]; exact text_cat n [47]
  rw [hm]
  clear hm
  have cP : ∀ W, Calls Tryz.prog 13 #[.string ⟨s.toArray⟩, .string ⟨m.toArray⟩] W fun e w' => e = .returned (.bool (Lib.hasPrefix s m)) ∧ W = w' := fun W => (Tryz.strings_HasPrefix ⟨s.toArray⟩ ⟨m.toArray⟩ W).mono fun _ _ ⟨h1, h2⟩ => ⟨h1, h2.symm⟩
  have tn := text_size n
  go_enter Tryz.func61, Tryz.ntmps61
  go_wp2_with (go_at_call 13; ((with_reducible refine (cP _).mono ?_); rintro e w2 ⟨rfl, rfl⟩))
  go_ret
  exact ⟨rfl, rfl⟩
set_option maxRecDepth 100000 in
set_option maxHeartbeats 2000000 in
theorem hinside_any (N H mb mw : Nat) (h : HouseC) (n : Bs) (w : World) (hS : HouseS N w H mb mw h) (hm : h.L.length ≤ 100000) (hn : n.length ≤ 1000000) :
    Calls Tryz.prog 36 #[.pointer (some ⟨H, 0, none⟩), .string ⟨n.toArray⟩] w (NamesS (w.heap.size + 1) w (hinsideF h.L n)) := by
  have y0 := (Below.refl w.heap.size w).alloc (Nat.le_refl _) (.cells #[.string ⟨n.toArray⟩] 9)
  have x0 := World.heap_alloc_new w (.cells #[.string ⟨n.toArray⟩] 9)
  have c0 : (w.alloc (.cells #[.string ⟨n.toArray⟩] 9)).cell? ⟨w.heap.size, 0, none⟩ = some (.string ⟨n.toArray⟩) := by rw [Lib.cell_of_heap x0]; rfl
  have s0 := alloc_size w (.cells #[.string ⟨n.toArray⟩] 9)
  have cN := hnames_any N H mb mw h _ (hS.below y0) hm
  rw [s0] at cN
  have cD : ∀ W v, Below (w.heap.size + 1) (w.alloc (.cells #[.string ⟨n.toArray⟩] 9)) W → W.ownsRow (w.heap.size + 1) 9 1 v h.L.length (h.L.map encStr) → Calls Tryz.prog 60 #[v, .func (.func 61) #[] #[.pointer (some ⟨w.heap.size, 0, none⟩)]] W (RowS (w.heap.size + 1) (hinsideF h.L n) W v.ownBlock) := fun W v hb hr => by
    have := delG_any (enters_of Tryz.func61 (by kernel_rfl) rfl) (fun s => !Lib.hasPrefix s (n ++ [47])) h.L v (w.heap.size + 1) W hr (by have := hb.size; rw [s0] at this; exact this) (by omega) (lb := #[.pointer (some ⟨w.heap.size, 0, none⟩)]) (fun W' x hW' => (inside1_any n x w.heap.size W' (((hb.trans hW').cell (p := ⟨w.heap.size, 0, none⟩) (Nat.lt_succ_self _)).trans c0) hn).mono (by rintro e w' ⟨rfl, rfl⟩; exact ⟨rfl, 0, rfl⟩))
    simpa [hinsideF] using this
  clear hS x0 c0
  go_enter Tryz.func36, Tryz.ntmps36
  go_wp2_with (first
    | (go_at_call 18; ((with_reducible refine cN.mono ?_); rintro e w1 ⟨v, rfl, hrow, hb⟩; rw [s0] at hb; have hszb := hb.size; have hcd := cD w1 v hb hrow))
    | (go_at_call 60; ((with_reducible refine hcd.mono ?_); rintro e w2 ⟨v2, rfl, hrow2, hg2⟩)))
  go_ret
  exact ⟨v2, rfl, hrow2, (y0.trans (hb.mono (Nat.le_succ _))).grown hg2 (by rw [s0] at hszb; omega) (fun j hj => by have := (hrow.lt j hj).1; omega)⟩
/-- what Delete says, and leaves -/
def DeletedS (N : Nat) (w : World) (H mb mw : Nat) (h : HouseC) (r : Nat ⊕ Bs) (e : Ending) (w' : World) : Prop := match r with
  | .inl m => e = .returned (eno m) ∧ Below w.heap.size w w'
  | .inr n => e = .returned .nilIface ∧ HouseS N w' H mb mw { h with L := delS n h.L } ∧ Kept (fun k => k = mb) w w'
theorem house_del {N : Nat} {w w' : World} {H mb mw : Nat} {h : HouseC} {n : Bs} (hS : HouseS N w H mb mw h) (hP : PM w' mb (delS n h.L) (fun x => (h.box x).blk)) (hk : Kept (fun k => k = mb) w w') : HouseS N w' H mb mw { h with L := delS n h.L } :=
  { hS with
    cells := hk.obj hS.cells hS.nes.1
    boxes := hP
    wants := hS.wants.kept hk (fun e => hS.ne e.symm)
    box := fun x hx => ⟨(hS.box x (mem_delS.1 hx).1).1, hk.obj (hS.box x (mem_delS.1 hx).1).2 (hS.box_ne (mem_delS.1 hx).1).2.1⟩
    inj := fun x hx y hy => hS.inj x (mem_delS.1 hx).1 y (mem_delS.1 hy).1
    lenL := fun x hx => hS.lenL x (mem_delS.1 hx).1
    slc := fun x hx => hS.slc x (mem_delS.1 hx).1 }
end Go.Proofs.YtdlfbhbgemoelaaGreatDoor
namespace Go.Proofs.YtdlfbhbgemoelaaGreatDoor
open Go.RowKit Go.Shelf Go.Sort Go.Maps

theorem hget_inl {L : List Bs} {s : Bs} {m : Nat} (h : hgetF L s = .inl m) : m = 1 ∨ m = 7 := by
  unfold hgetF at h
  split at h
  · cases h; exact Or.inl rfl
  · split at h
    · cases h
    · cases h; exact Or.inr rfl
theorem hget_inr {L : List Bs} {s n : Bs} (h : hgetF L s = .inr n) : hnameF s = some n ∧ n ∈ L := by
  unfold hgetF at h
  split at h
  · cases h
  · rename_i n' hn
    split at h
    · rename_i hm; cases h; exact ⟨hn, hm⟩
    · cases h
set_option maxRecDepth 100000 in
set_option maxHeartbeats 4000000 in
theorem hdelete_any (N H mb mw : Nat) (h : HouseC) (s : Bs) (w : World) (hS : HouseS N w H mb mw h) (hs : s.length ≤ 1000000) (hm : h.L.length ≤ 100000) (hG : HG w) :
    Calls Tryz.prog 20 #[.pointer (some ⟨H, 0, none⟩), .string ⟨s.toArray⟩] w (DeletedS N w H mb mw h (hdeleteF h.L s)) := by
  have cG := hget_any N H mb mw h s w hS hs hG
  unfold hdeleteF
  cases hg : hgetF h.L s with
  | inl m =>
    rw [hg] at cG
    have cG : Calls Tryz.prog 10 #[.pointer (some ⟨H, 0, none⟩), .string ⟨s.toArray⟩] w fun e w' => e = .returned (.tuple #[.pointer none, .iface 55 (.int .i64 (m : Int))]) ∧ Below w.heap.size w w' := cG
    clear hg hS
    show Calls _ _ _ _ fun e w' => e = .returned (.iface 55 (.int .i64 (m : Int))) ∧ Below w.heap.size w w'
    go_enter Tryz.func20, Tryz.ntmps20
    go_wp2_with (go_at_call 10; ((with_reducible refine cG.mono ?_); rintro e w1 ⟨rfl, hb1⟩))
    go_ret
    exact ⟨rfl, hb1⟩
  | inr n =>
    rw [hg] at cG
    obtain ⟨hn, hmem⟩ := hget_inr hg
    have hl := (hnameF_len hn).1
    have cG : Calls Tryz.prog 10 #[.pointer (some ⟨H, 0, none⟩), .string ⟨s.toArray⟩] w fun e w' => e = .returned (.tuple #[.pointer (some ⟨(h.box n).blk, 0, none⟩), .nilIface]) ∧ Below w.heap.size w w' := cG
    have cN : ∀ W, HG W → Calls Tryz.prog 8 #[.string ⟨s.toArray⟩] W fun e w' => e = .returned (.tuple #[.string ⟨n.toArray⟩, .nilIface]) ∧ Below W.heap.size W w' := fun W hW => by
      have := hname_any s W hs hW
      rw [hn] at this
      exact this
    have cI := fun W (hW : Below w.heap.size w W) => hinside_any N H mb mw h n W (hS.below hW) hm (by omega)
    have HS := Lib.hid hS
    have HG' := Lib.hid hG
    clear hg hn hS hmem hG
    by_cases hin : n = inboxB
    · show Calls _ _ _ _ (DeletedS N w H mb mw h (if n = inboxB ∨ hinsideF h.L n ≠ [] then .inl 6 else .inr n))
      rw [if_pos (Or.inl hin)]
      show Calls _ _ _ _ fun e w' => e = .returned (.iface 55 (.int .i64 6)) ∧ Below w.heap.size w w'
      obtain rfl : n = [73, 78, 66, 79, 88] := hin
      clear cI
      go_enter Tryz.func20, Tryz.ntmps20
      go_wp2_with (first
        | (go_at_call 10; ((with_reducible refine cG.mono ?_); rintro e w1 ⟨rfl, hb1⟩))
        | (go_at_call 8; ((with_reducible refine (cN _ (HG'.out.below hb1)).mono ?_); rintro e w2 ⟨rfl, hb2⟩; have hb2 := hb1.trans (hb2.mono hb1.size))))
      go_ret
      exact ⟨rfl, hb2⟩
    · have hgb : (n == [73, 78, 66, 79, 88]) = false := by rw [beq_eq_false_iff_ne]; exact hin
      by_cases hne : hinsideF h.L n ≠ []
      · show Calls _ _ _ _ (DeletedS N w H mb mw h (if n = inboxB ∨ hinsideF h.L n ≠ [] then .inl 6 else .inr n))
        rw [if_pos (Or.inr hne)]
        show Calls _ _ _ _ fun e w' => e = .returned (.iface 55 (.int .i64 6)) ∧ Below w.heap.size w w'
        have hpos : 0 < (hinsideF h.L n).length := List.length_pos_iff.2 hne
        have hle : (hinsideF h.L n).length ≤ h.L.length := List.length_filter_le _ _
        have hpz : (0 : Int) < ((hinsideF h.L n).length : Int) := by omega
        generalize hinsideF h.L n = I at cI hpos hpz hle
        clear hin hne
        go_enter Tryz.func20, Tryz.ntmps20
        go_wp2_with (first
          | (go_at_call 10; ((with_reducible refine cG.mono ?_); rintro e w1 ⟨rfl, hb1⟩))
          | (go_at_call 8; ((with_reducible refine (cN _ (HG'.out.below hb1)).mono ?_); rintro e w2 ⟨rfl, hb2⟩; have hb2 := hb1.trans (hb2.mono hb1.size)))
          | (go_at_call 36; ((with_reducible refine (cI _ hb2).mono ?_); rintro e w3 ⟨v, rfl, hrow, hb3⟩; have hb3 := hb2.trans (hb3.mono hb2.size); obtain ⟨ao, cap, rfl⟩ := owns_val hrow; have HROW := Lib.hid hrow; clear hrow)))
        go_ret
        exact ⟨rfl, hb3⟩
      · show Calls _ _ _ _ (DeletedS N w H mb mw h (if n = inboxB ∨ hinsideF h.L n ≠ [] then .inl 6 else .inr n))
        rw [if_neg (fun e => e.elim hin hne)]
        have hnil : hinsideF h.L n = [] := Decidable.byContradiction hne
        rw [hnil] at cI
        have hfin : ∀ W W', Below w.heap.size w W → PM W' mb (delS n h.L) (fun x => (h.box x).blk) → Kept (fun k => k = mb) W W' → DeletedS N w H mb mw h (.inr n) (.returned .nilIface) W' := fun W W' h1 h2 h3 => ⟨rfl, house_del (HS.out.below h1) h2 h3, (kept_below h1).trans h3⟩
        have hcl : ∀ W, Below w.heap.size w W → W.cell? ⟨H, 0, none⟩ = some (.map (some mb)) ∧ Hid (PM W mb h.L (fun x => (h.box x).blk)) := fun W hW => ⟨(three_cells (HS.out.below hW).cells).1, (HS.out.below hW).boxes⟩
        have HFIN := Lib.hid hfin
        clear hin hne hnil hfin
        go_enter Tryz.func20, Tryz.ntmps20
        go_wp2_with (first
          | (go_at_call 10; ((with_reducible refine cG.mono ?_); rintro e w1 ⟨rfl, hb1⟩))
          | (go_at_call 8; ((with_reducible refine (cN _ (HG'.out.below hb1)).mono ?_); rintro e w2 ⟨rfl, hb2⟩; have hb2 := hb1.trans (hb2.mono hb1.size)))
          | (go_at_call 36; ((with_reducible refine (cI _ hb2).mono ?_); rintro e w3 ⟨v, rfl, hrow, hb3⟩; have hb3 := hb2.trans (hb3.mono hb2.size); obtain ⟨ao, cap, rfl⟩ := owns_val hrow; obtain ⟨hc3, hP3⟩ := hcl _ hb3; have HROW := Lib.hid hrow; clear hrow))
          | (at_delete; refine wpList_delete_pm _ rfl _ _ rfl mb h.L _ rfl hP3.out n rfl (by omega) ?_; intro w4 hP4 hK4))
        go_ret
        exact HFIN.out _ _ hb3 hP4 hK4
end Go.Proofs.YtdlfbhbgemoelaaGreatDoor
namespace Go.Proofs.YtdlfbhbgemoelaaGreatDoor
open Go.RowKit Go.Shelf Go.Sort Go.Maps

/-- would a name be too long? -/
def longQ (n m s : Bs) : Bool := decide ((60 : Int) < wrap64 (wrap64 ((s.length : Int) - (n.length : Int)) + (m.length : Int)))
theorem longQ_is {n m s : Bs} (hn : n.length ≤ s.length) (hs : s.length ≤ 1000000) (hm : m.length ≤ 1000000) : longQ n m s = decide (60 < s.length - n.length + m.length) := by
  unfold longQ
  rw [IntWalk.wrap64_in ((s.length : Int) - (n.length : Int)) (by omega), IntWalk.wrap64_in _ (by omega), decide_eq_decide]
  omega
set_option maxRecDepth 100000 in
set_option maxHeartbeats 2000000 in
theorem rename1_any (n m s : Bs) (X Y : Nat) (W : World) (hx : W.cell? ⟨X, 0, none⟩ = some (.string ⟨n.toArray⟩)) (hy : W.cell? ⟨Y, 0, none⟩ = some (.string ⟨m.toArray⟩)) :
    Calls Tryz.prog 39 #[.string ⟨s.toArray⟩, .pointer (some ⟨X, 0, none⟩), .pointer (some ⟨Y, 0, none⟩)] W fun e w' => e = .returned (.bool (longQ n m s)) ∧ W = w' := by
  have ts := text_size s
  have tn := text_size n
  have tm := text_size m
  unfold longQ
  obtain ⟨z, hz⟩ : ∃ z, wrap64 (wrap64 ((s.length : Int) - (n.length : Int)) + (m.length : Int)) = z := ⟨_, rfl⟩
  rw [hz]
  go_enter Tryz.func39, Tryz.ntmps39
  go_wp2_with fail
  go_ret
  exact ⟨rfl, rfl⟩
end Go.Proofs.YtdlfbhbgemoelaaGreatDoor
