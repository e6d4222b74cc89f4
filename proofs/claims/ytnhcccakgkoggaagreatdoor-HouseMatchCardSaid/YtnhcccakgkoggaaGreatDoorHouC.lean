/- The walks over a house's Names, Get, above. Conditions: utf8's two tables and bytealg.MaxLen lie as the program's text lays them (where a name is read). -/
import Derived.Test.YtnhcccakgkoggaaGreatDoorHouB
import Derived.Test.YtnhcccakgkoggaaGreatDoorSRow
import Derived.Test.YtnhcccakgkoggaaGreatDoorByteAt
namespace Go.Proofs.YtnhcccakgkoggaaGreatDoor
open Go.RowKit Go.Shelf Go.Sort Go.Maps

/-- names are brought in a new row -/
def NamesS (N : Nat) (w : World) (L : List Bs) (e : Ending) (w' : World) : Prop := ∃ v, e = .returned v ∧ w'.ownsRow N 9 1 v L.length (L.map encStr) ∧ Below w.heap.size w w'
set_option maxRecDepth 100000 in
set_option maxHeartbeats 2000000 in
theorem hnames_any (N H mb mw : Nat) (h : HouseC) (w : World) (hS : HouseS N w H mb mw h) (hm : h.L.length ≤ 100000) :
    Calls Tryz.prog 12 #[.pointer (some ⟨H, 0, none⟩)] w (NamesS w.heap.size w h.L) := by
  obtain ⟨c0, c1, c2⟩ := three_cells hS.cells
  obtain ⟨D, hown, hMK⟩ := hS.boxes
  have cK := keysB_any (some mb) w
  have cS := sortedB_any mb _ D ptrR h.L .nil _ w hown hMK (by omega)
  clear hown hMK hS
  go_enter Tryz.func12, Tryz.ntmps12
  go_wp2_with (first
    | (go_at_call 25; ((with_reducible refine cK.mono ?_); rintro e w1 ⟨rfl, rfl⟩))
    | (go_at_call 24; ((with_reducible refine cS.mono ?_); rintro e w2 ⟨v, rfl, hrow, hb⟩)))
  go_ret
  exact ⟨v, rfl, hrow, hb⟩
def hgetV (h : HouseC) (r : Nat ⊕ Bs) : Value := match r with
  | .inl m => .tuple #[.pointer none, eno m]
  | .inr n => .tuple #[.pointer (some ⟨(h.box n).blk, 0, none⟩), .nilIface]
set_option maxRecDepth 100000 in
set_option maxHeartbeats 2000000 in
theorem hget_any (N H mb mw : Nat) (h : HouseC) (s : Bs) (w : World) (hS : HouseS N w H mb mw h) (hs : s.length ≤ 1000000) (hG : HG w) :
    Calls Tryz.prog 27 #[.pointer (some ⟨H, 0, none⟩), .string ⟨s.toArray⟩] w fun e w' => e = .returned (hgetV h (hgetF h.L s)) ∧ Below w.heap.size w w' := by
  have cN := hname_any s w hs hG
  have HS := Lib.hid hS
  clear hS
  unfold hgetF
  cases hn : hnameF s with
  | none =>
    rw [hn] at cN
    have cN : Calls Tryz.prog 22 #[.string ⟨s.toArray⟩] w fun e w' => e = .returned (.tuple #[.string ⟨#[]⟩, .iface 32 (.int .i64 1)]) ∧ Below w.heap.size w w' := cN
    clear hn HS
    go_enter Tryz.func27, Tryz.ntmps27
    go_wp2_with (go_at_call 22; ((with_reducible refine cN.mono ?_); rintro e w1 ⟨rfl, hb1⟩))
    go_ret2
    exact ⟨rfl, hb1⟩
  | some n =>
    rw [hn] at cN
    have cN : Calls Tryz.prog 22 #[.string ⟨s.toArray⟩] w fun e w' => e = .returned (.tuple #[.string ⟨n.toArray⟩, .nilIface]) ∧ Below w.heap.size w w' := cN
    have hl := (hnameF_len hn).1
    clear hn
    by_cases hm : n ∈ h.L
    · show Calls _ _ _ _ fun e w' => e = .returned (hgetV h (if n ∈ h.L then .inr n else .inl 7)) ∧ _
      rw [if_pos hm]
      have cL : ∀ W, Below w.heap.size w W → (Instr.lookup 39 (.map (some mb)) (.string ⟨n.toArray⟩) false).run Tryz.prog W = .ok (.pointer (some ⟨(h.box n).blk, 0, none⟩)) W ∧ W.cell? ⟨H, 0, none⟩ = some (.map (some mb)) := fun W hW => ⟨pm_look_yes (HS.out.boxes.below hW) (by omega) hm, (three_cells (HS.out.below hW).cells).1⟩
      clear hm
      go_enter Tryz.func27, Tryz.ntmps27
      go_wp2_with (go_at_call 22; ((with_reducible refine cN.mono ?_); rintro e w1 ⟨rfl, hb1⟩; obtain ⟨hr, hc⟩ := cL _ hb1))
      go_ret2
      exact ⟨rfl, hb1⟩
    · show Calls _ _ _ _ fun e w' => e = .returned (hgetV h (if n ∈ h.L then .inr n else .inl 7)) ∧ _
      rw [if_neg hm]
      have cL : ∀ W, Below w.heap.size w W → (Instr.lookup 39 (.map (some mb)) (.string ⟨n.toArray⟩) false).run Tryz.prog W = .ok (.pointer none) W ∧ W.cell? ⟨H, 0, none⟩ = some (.map (some mb)) := fun W hW => ⟨pm_look_no (HS.out.boxes.below hW) (by omega) hm, (three_cells (HS.out.below hW).cells).1⟩
      clear hm
      go_enter Tryz.func27, Tryz.ntmps27
      go_wp2_with (go_at_call 22; ((with_reducible refine cN.mono ?_); rintro e w1 ⟨rfl, hb1⟩; obtain ⟨hr, hc⟩ := cL _ hb1))
      go_ret2
      exact ⟨rfl, hb1⟩
theorem above_succ (L : List Bs) (n : Bs) (k : Nat) : haboveK L n (k + 1) = if ((n.getD k 0 == 47) && !decide (n.take k ∈ L)) = true then haboveK L n k ++ [n.take k] else haboveK L n k := by
  unfold haboveK
  rw [List.range_succ, List.filter_append, List.map_append]
  split
  · rename_i h; rw [List.filter_cons, if_pos h]; rfl
  · rename_i h; rw [List.filter_cons, if_neg h]; simp
theorem above_len (L : List Bs) (n : Bs) (k : Nat) : (haboveK L n k).length ≤ k := by
  unfold haboveK
  rw [List.length_map]
  exact Nat.le_trans (List.length_filter_le _ _) (by simp)
set_option maxRecDepth 100000 in
set_option maxHeartbeats 4000000 in
theorem habove_any (N H mb mw : Nat) (h : HouseC) (n : Bs) (w : World) (hS : HouseS N w H mb mw h) (hn : n.length ≤ 100000) :
    Calls Tryz.prog 23 #[.pointer (some ⟨H, 0, none⟩), .string ⟨n.toArray⟩] w (NamesS w.heap.size w (haboveF h.L n)) := by
  have tn := text_size n
  have HS := Lib.hid hS
  clear hS
  go_enter Tryz.func23, Tryz.ntmps23
  go_wp2_with fail
  go_loopg [9, 5] n.length (fun g s9 s5 wr => ∃ (k : Nat) (v : Value), k + g = n.length ∧ s9 = .int .i64 (k : Int) ∧ v = s5 ∧ wr.ownsRow w.heap.size 9 1 v (haboveK h.L n k).length ((haboveK h.L n k).map encStr) ∧ Below w.heap.size w wr)
  case atStart => exact ⟨0, _, by omega, rfl, rfl, World.ownsRow_nil _ _ _ _, Below.refl _ _⟩
  case round =>
    obtain ⟨k, v, hk, rfl, rfl, hrow, hbr⟩ := hrel
    by_cases hlt : k < n.length
    · obtain ⟨g', rfl⟩ : ∃ g', gk = g' + 1 := ⟨gk - 1, by omega⟩
      obtain ⟨c, hc⟩ : ∃ c, n[k]? = some c := ⟨n[k], List.getElem?_eq_getElem hlt⟩
      have hx : ∀ h, (⟨n.toArray⟩ : ByteArray)[k]'h = c := byte_at hc
      have hgd : n.getD k 0 = c := by rw [List.getD_eq_getElem?_getD, hc]; rfl
      have hsu := above_succ h.L n k
      rw [hgd] at hsu
      have hal := above_len h.L n k
      have hkz : (k : Int) < (n.length : Int) := by omega
      have hpt : (⟨n.toArray⟩ : ByteArray).extract 0 k = ⟨(n.take k).toArray⟩ := by rw [text_part]; simp
      have hc0 := (three_cells (HS.out.below hbr).cells).1
      obtain ⟨A, hA⟩ : ∃ A, haboveK h.L n k = A := ⟨_, rfl⟩
      rw [hA] at hrow hsu hal
      obtain ⟨ao, cap, rfl⟩ := owns_val hrow
      have HROW := Lib.hid hrow
      have HBR := Lib.hid hbr
      clear hc hgd hA hrow hbr
      by_cases h47 : c = 47
      · subst h47
        by_cases hm : n.take k ∈ h.L
        · have hL : ∀ q, (Instr.lookup 39 (.map (some mb)) (.string ⟨(n.take k).toArray⟩) false).run Tryz.prog (wr.drewN q) = .ok (.pointer (some ⟨(h.box (n.take k)).blk, 0, none⟩)) (wr.drewN q) := fun q => pm_look_yes (HS.out.boxes.below (HBR.out.trans ((below_drewN wr q).mono HBR.out.size))) (by rw [List.length_take]; omega) hm
          have hsu : haboveK h.L n (k + 1) = A := by rw [hsu, decide_eq_true hm]; rfl
          have HSU := Lib.hid hsu
          clear hm hsu
          go_wp2_with fail
          go_quiet (fail)
          go_wp2_with fail
          go_roundg g'
          case measure => omega
          case rel => exact ⟨k + 1, _, by omega, by go_num, rfl, by rw [HSU.out]; exact HROW.out, HBR.out.trans ((below_drewN wr _).mono HBR.out.size)⟩
        · have hL : ∀ q, (Instr.lookup 39 (.map (some mb)) (.string ⟨(n.take k).toArray⟩) false).run Tryz.prog (wr.drewN q) = .ok (.pointer none) (wr.drewN q) := fun q => pm_look_no (HS.out.boxes.below (HBR.out.trans ((below_drewN wr q).mono HBR.out.size))) (by rw [List.length_take]; omega) hm
          have hsu : haboveK h.L n (k + 1) = A ++ [n.take k] := by rw [hsu, decide_eq_false hm]; rfl
          have HSU := Lib.hid hsu
          clear hm hsu
          go_wp2_with fail
          go_quiet (fail)
          have hrq : (wr.drewN nq).ownsRow w.heap.size 9 1 (.slice ao A.length cap) A.length (A.map encStr) := HROW.out
          have hbq : Below w.heap.size w (wr.drewN nq) := HBR.out.trans ((below_drewN wr _).mono HBR.out.size)
          generalize wr.drewN nq = wq at hrq hbq ⊢
          have hsz := hbq.size
          clear hL
          go_wp2_with (at_builtin; go_must (refine wpList_app1 rfl _ _ 30 rfl 9 Tryz.underlying30 str_info rfl w.heap.size _ _ _ _ rfl hrq _ rfl rfl ?hn (by decide) hsz ?_))
          case hn => omega
          intro v' w3 o3 g3 hv3
          have hb3 := below_app hbq hsz hrq g3
          go_wp2_with fail
          go_roundg g'
          case measure => omega
          case rel => exact ⟨k + 1, _, by omega, by go_num, rfl, by rw [HSU.out, List.length_append, List.map_append]; exact o3, hb3⟩
      · have h47b : ((c.toNat : Int) == 47) = false := by
          rw [beq_eq_false_iff_ne]; intro e; exact h47 (UInt8.toNat_inj.1 (by show c.toNat = 47; omega))
        have hsu : haboveK h.L n (k + 1) = A := by
          rw [hsu, if_neg]
          have : (c == 47) = false := by rw [beq_eq_false_iff_ne]; exact h47
          rw [this]; simp
        have HSU := Lib.hid hsu
        clear hsu
        go_wp2_with fail
        go_quiet (fail)
        go_wp2_with fail
        go_roundg g'
        case measure => omega
        case rel => exact ⟨k + 1, _, by omega, by go_num, rfl, by rw [HSU.out]; exact HROW.out, HBR.out.trans ((below_drewN wr _).mono HBR.out.size)⟩
    · obtain rfl : k = n.length := by omega
      have HROW := Lib.hid hrow
      clear hrow
      go_wp2_with fail
      go_ret
      exact ⟨_, rfl, HROW.out, hbr⟩
end Go.Proofs.YtnhcccakgkoggaaGreatDoor
