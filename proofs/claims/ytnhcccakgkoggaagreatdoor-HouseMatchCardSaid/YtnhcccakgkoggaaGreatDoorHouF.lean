/- The walks over a house's inside, Delete. Conditions: utf8's two tables and bytealg.MaxLen lie as the program's text lays them. -/
import Derived.Test.YtnhcccakgkoggaaGreatDoorHouE
import Derived.Test.YtnhcccakgkoggaaGreatDoorDelG
namespace Go.Proofs.YtnhcccakgkoggaaGreatDoor
open Go.RowKit Go.Shelf Go.Sort Go.Maps

set_option maxRecDepth 100000 in
set_option maxHeartbeats 2000000 in
theorem inside1_any (n s : Bs) (B : Nat) (W : World) (hc : W.cell? ⟨B, 0, none⟩ = some (.string ⟨n.toArray⟩)) (hn : n.length ≤ 1000000) :
    Calls Tryz.prog 49 #[.string ⟨s.toArray⟩, .pointer (some ⟨B, 0, none⟩)] W fun e w' => e = .returned (.bool (!Lib.hasPrefix s (n ++ [47]))) ∧ W = w' := by
  obtain ⟨m, hm⟩ : ∃ m, n ++ [47] = m := ⟨_, rfl⟩
  have hct : (⟨n.toArray⟩ : ByteArray) ++ ⟨#[47]⟩ = ⟨m.toArray⟩ := by rw [← hm]; exact text_cat n [47]
  rw [hm]
  clear hm
  have cP : ∀ W, Calls Tryz.prog 8 #[.string ⟨s.toArray⟩, .string ⟨m.toArray⟩] W fun e w' => e = .returned (.bool (Lib.hasPrefix s m)) ∧ W = w' := fun W => (Tryz.strings_HasPrefix ⟨s.toArray⟩ ⟨m.toArray⟩ W).mono fun _ _ ⟨h1, h2⟩ => ⟨h1, h2.symm⟩
  have tn := text_size n
  go_enter Tryz.func49, Tryz.ntmps49
  go_wp2_with (go_at_call 8; ((with_reducible refine (cP _).mono ?_); rintro e w2 ⟨rfl, rfl⟩))
  go_ret
  exact ⟨rfl, rfl⟩
set_option maxRecDepth 100000 in
set_option maxHeartbeats 2000000 in
theorem hinside_any (N H mb mw : Nat) (h : HouseC) (n : Bs) (w : World) (hS : HouseS N w H mb mw h) (hm : h.L.length ≤ 100000) (hn : n.length ≤ 1000000) :
    Calls Tryz.prog 28 #[.pointer (some ⟨H, 0, none⟩), .string ⟨n.toArray⟩] w (NamesS (w.heap.size + 1) w (hinsideF h.L n)) := by
  have y0 := (Below.refl w.heap.size w).alloc (Nat.le_refl _) (.cells #[.string ⟨n.toArray⟩] 9)
  have x0 := World.heap_alloc_new w (.cells #[.string ⟨n.toArray⟩] 9)
  have c0 : (w.alloc (.cells #[.string ⟨n.toArray⟩] 9)).cell? ⟨w.heap.size, 0, none⟩ = some (.string ⟨n.toArray⟩) := by rw [Lib.cell_of_heap x0]; rfl
  have s0 := alloc_size w (.cells #[.string ⟨n.toArray⟩] 9)
  have cN := hnames_any N H mb mw h _ (hS.below y0) hm
  rw [s0] at cN
  have cD : ∀ W v, Below (w.heap.size + 1) (w.alloc (.cells #[.string ⟨n.toArray⟩] 9)) W → W.ownsRow (w.heap.size + 1) 9 1 v h.L.length (h.L.map encStr) → Calls Tryz.prog 48 #[v, .func (.func 49) #[] #[.pointer (some ⟨w.heap.size, 0, none⟩)]] W (RowS (w.heap.size + 1) (hinsideF h.L n) W v.ownBlock) := fun W v hb hr => by
    have := delG_any (enters_of Tryz.func49 (by kernel_rfl) rfl) (fun s => !Lib.hasPrefix s (n ++ [47])) h.L v (w.heap.size + 1) W hr (by have := hb.size; rw [s0] at this; exact this) (by omega) (lb := #[.pointer (some ⟨w.heap.size, 0, none⟩)]) (fun W' x hW' => (inside1_any n x w.heap.size W' (((hb.trans hW').cell (p := ⟨w.heap.size, 0, none⟩) (Nat.lt_succ_self _)).trans c0) hn).mono (by rintro e w' ⟨rfl, rfl⟩; exact ⟨rfl, 0, rfl⟩))
    simpa [hinsideF] using this
  clear hS x0 c0
  go_enter Tryz.func28, Tryz.ntmps28
  go_wp2_with (first
    | (go_at_call 12; ((with_reducible refine cN.mono ?_); rintro e w1 ⟨v, rfl, hrow, hb⟩; rw [s0] at hb; have hszb := hb.size; have hcd := cD w1 v hb hrow))
    | (go_at_call 48; ((with_reducible refine hcd.mono ?_); rintro e w2 ⟨v2, rfl, hrow2, hg2⟩)))
  go_ret
  exact ⟨v2, rfl, hrow2, (y0.trans (hb.mono (Nat.le_succ _))).grown hg2 (by rw [s0] at hszb; omega) (fun j hj => by have := (hrow.lt j hj).1; omega)⟩
/-- what Delete says, and leaves -/
def DeletedS (N : Nat) (w : World) (H mb mw : Nat) (h : HouseC) (r : Nat ⊕ Bs) (e : Ending) (w' : World) : Prop := match r with
  | .inl m => e = .returned (eno m) ∧ Below w.heap.size w w'
  | .inr n => e = .returned .nilIface ∧ HouseS N w' H mb mw { h with L := delS n h.L } ∧ Kept (fun k => k = mb) w w'
theorem house_del {N : Nat} {w w' : World} {H mb mw : Nat} {h : HouseC} {n : Bs} (hS : HouseS N w H mb mw h) (hP : PM w' mb (delS n h.L) (fun x => (h.box x).blk)) (hk : Kept (fun k => k = mb) w w') : HouseS N w' H mb mw { h with L := delS n h.L } :=
  { hS with
    cells := hk.obj hS.cells hS.nes.1
    boxes := hP
    wants := hS.wants.kept hk (fun e => hS.ne e.symm)
    box := fun x hx => ⟨(hS.box x (mem_delS.1 hx).1).1, hk.obj (hS.box x (mem_delS.1 hx).1).2 (hS.box_ne (mem_delS.1 hx).1).2.1⟩
    inj := fun x hx y hy => hS.inj x (mem_delS.1 hx).1 y (mem_delS.1 hy).1
    lenL := fun x hx => hS.lenL x (mem_delS.1 hx).1 }
end Go.Proofs.YtnhcccakgkoggaaGreatDoor
