/- The walk over a house's Create. Conditions: utf8's two tables and bytealg.MaxLen lie as the program's text lays them. -/
import Derived.Test.YtnhcccakgkoggaaGreatDoorHouD
namespace Go.Proofs.YtnhcccakgkoggaaGreatDoor
open Go.RowKit Go.Shelf Go.Sort Go.Maps

/-- a row of texts stays while a house is written -/
theorem row_house {N : Nat} {w w' : World} {H mb mw : Nat} {h : HouseC} {S : Nat → Prop} (hS : HouseS N w H mb mw h) (hk : Kept S w w') (hSS : ∀ k, S k → k = H ∨ k = mb ∨ k = mw ∨ ∃ x ∈ h.L, k = (h.box x).blk) {B n : Nat} {v : Value} {xs : List Value} (hr : w.ownsRow B 9 1 v n xs) : w'.ownsRow B 9 1 v n xs := by
  refine owns_same hr ?_
  rintro k o hko ⟨c, fz, rfl⟩
  refine hk.obj hko fun e => ?_
  obtain ⟨es, cl, hb⟩ := hS.boxes.obj
  obtain ⟨es', cl', hw⟩ := hS.wants.obj
  rcases hSS k e with rfl | rfl | rfl | ⟨x, hx, rfl⟩
  · rw [hS.cells] at hko; cases hko
  · rw [hb] at hko; cases hko
  · rw [hw] at hko; cases hko
  · rw [(hS.box x hx).2] at hko; cases hko
/-- what Create says, and leaves -/
def CreatedS (N : Nat) (w : World) (H mb mw : Nat) (h : HouseC) (r : Nat ⊕ List Bs) (e : Ending) (w' : World) : Prop := match r with
  | .inl m => e = .returned (eno m) ∧ Below w.heap.size w w'
  | .inr l => e = .returned .nilIface ∧ ∃ bs : List Nat, l.length = bs.length ∧ HouseS N w' H mb mw (makeAll h l bs) ∧ Kept (fun k => k = H ∨ k = mb) w w'
set_option maxRecDepth 100000 in
set_option maxHeartbeats 4000000 in
theorem hcreate_bad (N H mb mw : Nat) (h : HouseC) (s : Bs) (m : Nat) (w : World) (hS : HouseS N w H mb mw h) (hs : s.length ≤ 1000000) (hm : h.L.length ≤ 100000) (hG : HG w) (hr : hcreateF h.L s = .inl m) :
    Calls Tryz.prog 11 #[.pointer (some ⟨H, 0, none⟩), .string ⟨s.toArray⟩] w fun e w' => e = .returned (eno m) ∧ Below w.heap.size w w' := by
  have cN := hname_any s w hs hG
  unfold hcreateF at hr
  cases hn : hnameF s with
  | none =>
    rw [hn] at cN hr
    cases hr
    have cN : Calls Tryz.prog 22 #[.string ⟨s.toArray⟩] w fun e w' => e = .returned (.tuple #[.string ⟨#[]⟩, .iface 32 (.int .i64 1)]) ∧ Below w.heap.size w w' := cN
    clear hn hS
    go_enter Tryz.func11, Tryz.ntmps11
    go_wp2_with (go_at_call 22; ((with_reducible refine cN.mono ?_); rintro e w1 ⟨rfl, hb1⟩))
    go_ret
    exact ⟨rfl, hb1⟩
  | some n =>
    rw [hn] at cN hr
    have cN : Calls Tryz.prog 22 #[.string ⟨s.toArray⟩] w fun e w' => e = .returned (.tuple #[.string ⟨n.toArray⟩, .nilIface]) ∧ Below w.heap.size w w' := cN
    have hl := (hnameF_len hn).1
    have HS := Lib.hid hS
    clear hn hS
    replace hr : (if n ∈ h.L then Sum.inl 9 else if 30 < h.L.length + (haboveF h.L n).length + 1 then .inl 12 else .inr (haboveF h.L n ++ [n])) = (Sum.inl m : Nat ⊕ List Bs) := hr
    by_cases hmem : n ∈ h.L
    · rw [if_pos hmem] at hr
      cases hr
      have cL : ∀ W, Below w.heap.size w W → (Instr.lookup 39 (.map (some mb)) (.string ⟨n.toArray⟩) false).run Tryz.prog W = .ok (.pointer (some ⟨(h.box n).blk, 0, none⟩)) W ∧ W.cell? ⟨H, 0, none⟩ = some (.map (some mb)) := fun W hW => ⟨pm_look_yes (HS.out.boxes.below hW) (by omega) hmem, (three_cells (HS.out.below hW).cells).1⟩
      clear hmem
      go_enter Tryz.func11, Tryz.ntmps11
      go_wp2_with (go_at_call 22; ((with_reducible refine cN.mono ?_); rintro e w1 ⟨rfl, hb1⟩; obtain ⟨hr, hc⟩ := cL _ hb1))
      go_ret
      exact ⟨rfl, hb1⟩
    · rw [if_neg hmem] at hr
      by_cases hbig : 30 < h.L.length + (haboveF h.L n).length + 1
      · rw [if_pos hbig] at hr
        cases hr
        have cL : ∀ W, Below w.heap.size w W → (Instr.lookup 39 (.map (some mb)) (.string ⟨n.toArray⟩) false).run Tryz.prog W = .ok (.pointer none) W ∧ W.cell? ⟨H, 0, none⟩ = some (.map (some mb)) ∧ Hid (PM W mb h.L (fun x => (h.box x).blk)) := fun W hW => ⟨pm_look_no (HS.out.boxes.below hW) (by omega) hmem, (three_cells (HS.out.below hW).cells).1, HS.out.boxes.below hW⟩
        have cA := fun W (hW : Below w.heap.size w W) => habove_any N H mb mw h n W (HS.out.below hW) (by omega)
        have hal : (haboveF h.L n).length ≤ 60 := Nat.le_trans (above_len h.L n n.length) hl
        have hbz : (30 : Int) < (h.L.length : Int) + ((haboveF h.L n).length : Int) + 1 := by omega
        have hbn : ¬ ((h.L.length : Int) + ((haboveF h.L n).length : Int) + 1 ≤ 30) := by omega
        generalize haboveF h.L n = A at cA hal hbz hbn
        clear hmem hbig
        go_enter Tryz.func11, Tryz.ntmps11
        go_wp2_with (first
          | (go_at_call 22; ((with_reducible refine cN.mono ?_); rintro e w1 ⟨rfl, hb1⟩; obtain ⟨hr, hc, -⟩ := cL _ hb1))
          | (go_at_call 23; ((with_reducible refine (cA _ hb1).mono ?_); rintro e w2 ⟨v, rfl, hrow, hb2⟩; have hb2 := hb1.trans (hb2.mono hb1.size); obtain ⟨hr2, hc2, hP2⟩ := cL _ hb2; obtain ⟨ao, cap, rfl⟩ := owns_val hrow; have HROW := Lib.hid hrow; clear hrow))
          | (at_len; refine wpList_len_pm _ rfl _ rfl mb h.L _ rfl hP2.out ?_))
        go_ret
        exact ⟨rfl, hb2⟩
      · rw [if_neg hbig] at hr
        cases hr
theorem fresh_at {h : HouseC} {l : List Bs} {bs : List Nat} {k : Nat} {x : Bs} (hf : l.Nodup ∧ ∀ y ∈ l, y ∉ h.L) (hk : l[k]? = some x) (hb : (l.take k).length = bs.length) : x ∉ (makeAll h (l.take k) bs).L := by
  rw [(makeAll_L h _ bs hb).1, mem_insAll]
  exact fun e => e.elim (hf.2 x (List.mem_of_getElem? hk)) (nodup_at hf.1 hk)
set_option maxRecDepth 100000 in
set_option maxHeartbeats 8000000 in
theorem hcreate_good (N H mb mw : Nat) (h : HouseC) (s : Bs) (l : List Bs) (w : World) (hS : HouseS N w H mb mw h) (hN : N ≤ w.heap.size) (hs : s.length ≤ 1000000) (hG : HG w) (h0 : 0 ≤ h.next) (h1 : h.next ≤ 3000000000) (hr : hcreateF h.L s = .inr l) :
    Calls Tryz.prog 11 #[.pointer (some ⟨H, 0, none⟩), .string ⟨s.toArray⟩] w (CreatedS N w H mb mw h (.inr l)) := by
  have cN := hname_any s w hs hG
  unfold hcreateF at hr
  cases hn : hnameF s with
  | none => rw [hn] at hr; cases hr
  | some n =>
    rw [hn] at cN hr
    have cN : Calls Tryz.prog 22 #[.string ⟨s.toArray⟩] w fun e w' => e = .returned (.tuple #[.string ⟨n.toArray⟩, .nilIface]) ∧ Below w.heap.size w w' := cN
    have hl := (hnameF_len hn).1
    have HS := Lib.hid hS
    replace hr : (if n ∈ h.L then Sum.inl 9 else if 30 < h.L.length + (haboveF h.L n).length + 1 then .inl 12 else .inr (haboveF h.L n ++ [n])) = (Sum.inr l : Nat ⊕ List Bs) := hr
    by_cases hmem : n ∈ h.L
    · rw [if_pos hmem] at hr; cases hr
    rw [if_neg hmem] at hr
    by_cases hbig : 30 < h.L.length + (haboveF h.L n).length + 1
    · rw [if_pos hbig] at hr; cases hr
    rw [if_neg hbig] at hr
    obtain rfl : haboveF h.L n ++ [n] = l := by injection hr
    have hfr := made_fresh hmem
    have cL : ∀ W, Below w.heap.size w W → (Instr.lookup 39 (.map (some mb)) (.string ⟨n.toArray⟩) false).run Tryz.prog W = .ok (.pointer none) W ∧ W.cell? ⟨H, 0, none⟩ = some (.map (some mb)) ∧ Hid (PM W mb h.L (fun x => (h.box x).blk)) := fun W hW => ⟨pm_look_no (HS.out.boxes.below hW) (by omega) hmem, (three_cells (HS.out.below hW).cells).1, HS.out.boxes.below hW⟩
    have cA := fun W (hW : Below w.heap.size w W) => habove_any N H mb mw h n W (HS.out.below hW) (by omega)
    have hbz : ¬ ((30 : Int) < (h.L.length : Int) + ((haboveF h.L n).length : Int) + 1) := by omega
    have hbn : (h.L.length : Int) + ((haboveF h.L n).length : Int) + 1 ≤ 30 := by omega
    have hLl : h.L.length ≤ 30 := by omega
    have hlt := hS.lt
    have hlo := hS.loH
    have hlob := hS.lob
    have hso := hS.boxes.sorts
    generalize haboveF h.L n = A at cA hbz hbn hfr
    have hAl : A.length ≤ 30 := by omega
    clear hmem hbig hr hn hS
    obtain ⟨l, hle⟩ : ∃ l, A ++ [n] = l := ⟨_, rfl⟩
    have hll : l.length = A.length + 1 := by rw [← hle]; simp
    have HFR : Hid ((l.Nodup ∧ ∀ y ∈ l, y ∉ h.L) ∧ ∀ y ∈ l, y.length ≤ 60) := by
      rw [hle] at hfr
      exact ⟨⟨hfr.1, fun y hy => (hfr.2 y hy).1⟩, fun y hy => Nat.le_trans (hfr.2 y hy).2 hl⟩
    have HLE := Lib.hid hle
    have hll2 : l.length ≤ 31 := by omega
    have HSO := Lib.hid hso
    rw [hle]
    clear hfr hle hll hso
    go_enter Tryz.func11, Tryz.ntmps11
    go_wp2_with (first
      | (go_at_call 22; ((with_reducible refine cN.mono ?_); rintro e w1 ⟨rfl, hb1⟩; obtain ⟨hr, hc, -⟩ := cL _ hb1))
      | (go_at_call 23; ((with_reducible refine (cA _ hb1).mono ?_); rintro e w2 ⟨v, rfl, hrow, hb2⟩; have hsz2 := hb1.size; have hb3 := hb1.trans (hb2.mono hb1.size); obtain ⟨hr2, hc2, hP2⟩ := cL _ hb3; have hszr := hb2.size; obtain ⟨ao, cap, rfl⟩ := owns_val hrow))
      | (at_len; refine wpList_len_pm _ rfl _ rfl mb h.L _ rfl hP2.out ?_)
      | (at_builtin; go_must (refine wpList_app1 rfl _ _ 30 rfl 9 Tryz.underlying30 str_info rfl w1.heap.size _ _ _ _ rfl hrow _ rfl rfl ?hn (by decide) hszr ?_)))
    case hn => omega
    intro v' w3 o3 g3 hv3
    have hb4 : Below w1.heap.size w1 w3 := below_app hb2 hb2.size hrow g3
    obtain ⟨gb, cap', rfl⟩ := owns_form o3 (by omega)
    obtain ⟨m, hm⟩ : ∃ m, A.length + 1 = m := ⟨_, rfl⟩
    have hlm : l.length = m := by rw [← hm, ← HLE.out]; simp
    have o4 : w3.ownsRow w1.heap.size 9 1 (.slice (some ⟨gb, 0, none⟩) m cap') m (l.map encStr) := by
      rw [← HLE.out, List.map_append, ← hm]; exact o3
    rw [hm]
    have hb5 : Below w.heap.size w w3 := hb1.trans (hb4.mono hb1.size)
    have HS5 : Hid (HouseS N w3 H mb mw h) := Lib.hid (HS.out.below hb5)
    have HLM := Lib.hid hlm
    have O4 := Lib.hid o4
    have hml : m ≤ 31 := by omega
    clear o3 o4 g3 hv3 hrow hr2 hc2 hP2 hr hc hm hlm
    go_wp2_with fail
    go_loopg [45] m (fun g s45 wr => ∃ (k : Nat) (bs : List Nat), k + g = m ∧ s45 = .int .i64 (k : Int) ∧ Hid (k = bs.length) ∧ Hid (HouseS N wr H mb mw (makeAll h (l.take k) bs)) ∧ Hid (Kept (fun j => j = H ∨ j = mb) w wr) ∧ Hid (wr.ownsRow w1.heap.size 9 1 (.slice (some ⟨gb, 0, none⟩) m cap') m (l.map encStr)))
    case atStart => exact ⟨0, [], by omega, rfl, Lib.hid rfl, HS5, Lib.hid (kept_below hb5), O4⟩
    case round =>
      clear HS5 O4 hb5 hb4
      obtain ⟨k, bs, hk, rfl, HB, HH, HK, HO⟩ := hrel
      by_cases hlt : k < m
      · obtain ⟨g', rfl⟩ : ∃ g', gk = g' + 1 := ⟨gk - 1, by omega⟩
        obtain ⟨x, hx⟩ : ∃ x, l[k]? = some x := ⟨l[k]'(by rw [HLM.out]; exact hlt), List.getElem?_eq_getElem _⟩
        have htl : (l.take k).length = bs.length := by rw [List.length_take, HLM.out, ← HB.out]; omega
        have hML := makeAll_L h (l.take k) bs htl
        have hlen : (makeAll h (l.take k) bs).L.length ≤ 1000 := by
          rw [hML.1, insAll_len HSO.out ((List.take_sublist k l).nodup HFR.out.1.1) (fun y hy => HFR.out.1.2 y (List.mem_of_mem_take hy)), List.length_take]
          omega
        have hnx : (makeAll h (l.take k) bs).next = h.next + (k : Int) := by rw [hML.2.2, htl, ← HB.out]
        have cM := hmake_any N H mb mw (makeAll h (l.take k) bs) x wr HH.out (Nat.le_trans hN HK.out.size) (fresh_at HFR.out.1 hx htl) (HFR.out.2 x (List.mem_of_getElem? hx)) hlen (by rw [hnx]; omega) (by rw [hnx]; omega)
        have hstep : ∀ B, makeC (makeAll h (l.take k) bs) x B = makeAll h (l.take (k + 1)) (bs ++ [B]) := fun B => by
          rw [List.take_add_one, hx]; exact (makeAll_snoc h _ bs x B htl).symm
        have hcx : wr.cell? ⟨gb, k, none⟩ = some (.string ⟨x.toArray⟩) := owns_cell HO.out (by rw [List.getElem?_map, hx]; rfl)
        have HST := Lib.hid hstep
        have hkz : (k : Int) < (m : Int) := by omega
        clear hx htl hML hlen hnx hstep
        go_wp2_with (go_at_call 21; ((with_reducible refine cM.mono ?_); rintro e w5 ⟨rfl, B, hB5, hS5, hK5⟩))
        have o5 := row_house HH.out hK5 (fun j e => e.elim Or.inl (fun e => Or.inr (Or.inl e))) HO.out
        rw [HST.out] at hS5
        go_roundg g'
        case measure => omega
        case rel => exact ⟨k + 1, bs ++ [B], by omega, by go_num, Lib.hid (by rw [List.length_append, ← HB.out]; rfl), Lib.hid hS5, Lib.hid (HK.out.trans (hK5.mono (fun _ _ e => e))), Lib.hid o5⟩
      · obtain rfl : k = m := by omega
        have hfin : HouseS N wr H mb mw (makeAll h l bs) := by
          have := HH.out
          rwa [List.take_of_length_le (by rw [HLM.out]; exact Nat.le_refl _)] at this
        go_wp2_with fail
        go_ret
        exact ⟨rfl, bs, by rw [HLM.out, HB.out], hfin, HK.out⟩
end Go.Proofs.YtnhcccakgkoggaaGreatDoor
