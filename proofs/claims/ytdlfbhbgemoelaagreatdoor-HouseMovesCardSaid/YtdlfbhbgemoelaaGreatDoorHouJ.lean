/- The walk over house.Load of what may be: a house that has just this. Conditions: those of house.Right (its contract is handed in). -/
import Derived.Test.YtdlfbhbgemoelaaGreatDoorHouX
import Derived.Test.YtdlfbhbgemoelaaGreatDoorPHouse10
namespace Go.Proofs.YtdlfbhbgemoelaaGreatDoor
open Go.RowKit Go.Shelf Go.Sort Go.Maps
set_option linter.unusedSimpArgs false

theorem SafeV.lift {N N' : Nat} {w : World} {v : Value} (h : SafeV N w v) (hN : N ≤ N') : SafeV N' w v := fun a n c e => ⟨(h a n c e).1, (h a n c e).2.imp (fun h => Nat.lt_of_lt_of_le h hN) id⟩
theorem XRow.lift {N N' : Nat} {w : World} {v : Value} {zs : List (Let × Value)} (h : XRow N w v zs) (hN : N ≤ N') : XRow N' w v zs := ⟨h.1, h.2.1.lift hN, fun z hz => (h.2.2 z hz).lift hN⟩
theorem BRow.lift {N N' : Nat} {w : World} {v : Value} {bl : List BoxP} (h : BRow N w v bl) (hN : N ≤ N') : BRow N' w v bl := by
  obtain ⟨ao, cap, h1, h2, h3, h4⟩ := h
  refine ⟨ao, cap, h1, h2, h3, fun j b hj => ?_⟩
  obtain ⟨B, off, lv, zs, e1, e2, c0, c1, c2, e3, e4⟩ := h4 j b hj
  exact ⟨B, off, lv, zs, e1, e2, c0, c1, c2, e3, e4.lift hN⟩
theorem insS_last {L : List Bs} (hs : Sorts L) {k : Nat} {x : Bs} (hx : L[k]? = some x) : insS x (L.take k) = L.take (k + 1) := by
  have h1 : Sorts (L.take (k + 1)) := hs.sublist (List.take_sublist _ _)
  have h2 : Sorts (insS x (L.take k)) := Sorts.ins (hs.sublist (List.take_sublist _ _))
  refine sorts_ext h2 h1 (fun y => ?_)
  rw [mem_insS, List.take_add_one, hx]
  simp [or_comm]
theorem not_before {L : List Bs} (hs : Sorts L) {k : Nat} {x : Bs} (hx : L[k]? = some x) : x ∉ L.take k := nodup_at hs.nodup hx
/-- a box that is brought into a house -/
def bringC (h : HouseC) (s : Bs) (b : BoxC) : HouseC := { h with L := insS s h.L, box := updB h.box s b }
theorem house_bring {N : Nat} {w w7 w8 : World} {H mb mw : Nat} {h : HouseC} {s : Bs} {BB : Nat} {v n : Int} {la : Option Addr} {ln lc : Nat} (hS : HouseS N w H mb mw h) (hb : Below w.heap.size w w7) (hs : s ∉ h.L) (hl : s.length ≤ 60) (hBN : N ≤ BB) (hBB : w.heap.size ≤ BB)
    (hB : w7.heap[BB]? = some (.cells #[.int .i64 v, .int .i64 n, .slice la ln lc] 48 (0, 0))) (hP : PM w8 mb (insS s h.L) (fun x => if x = s then BB else (h.box x).blk)) (hk : Kept (fun k => k = mb) w7 w8) :
    HouseS N w8 H mb mw (bringC h s ⟨BB, v, n, .slice la ln lc⟩) := by
  have hlt := hS.lt
  have hne := hS.nes
  have hS7 := hS.below hb
  have hbk : ∀ x, (updB h.box s ⟨BB, v, n, .slice la ln lc⟩ x).blk = if x = s then BB else (h.box x).blk := fun x => by
    unfold updB
    split <;> rfl
  refine { loH := hS.loH, lob := hS.lob, low := hS.low, cells := hk.obj hS7.cells hne.1, boxes := hP.congr (fun x _ => hbk x), wants := hS7.wants.kept hk (fun e => hS.ne e.symm), ne := hS.ne, box := fun x hx => ?_, inj := fun x hx y hy hxy => ?_, lenL := fun x hx => ?_, lenW := hS.lenW, slc := fun x hx => ?_ }
  · show N ≤ (updB h.box s _ x).blk ∧ w8.heap[(updB h.box s _ x).blk]? = some (.cells #[.int .i64 (updB h.box s _ x).valid, .int .i64 (updB h.box s _ x).next, (updB h.box s _ x).lv] 48 (0, 0))
    unfold updB
    by_cases e : x = s
    · rw [if_pos e]
      exact ⟨hBN, hk.obj hB (by show ¬ (BB = mb); omega)⟩
    · rw [if_neg e]
      have hxL : x ∈ h.L := (mem_insS.1 hx).resolve_left e
      exact ⟨(hS.box x hxL).1, hk.obj (hS7.box x hxL).2 (hS7.box_ne hxL).2.1⟩
  · have hxy : (updB h.box s _ x).blk = (updB h.box s _ y).blk := hxy
    rw [hbk, hbk] at hxy
    by_cases e1 : x = s <;> by_cases e2 : y = s
    · rw [e1, e2]
    · rw [if_pos e1, if_neg e2] at hxy
      have := (hS.box_ne ((mem_insS.1 hy).resolve_left e2)).2.2.2
      omega
    · rw [if_neg e1, if_pos e2] at hxy
      have := (hS.box_ne ((mem_insS.1 hx).resolve_left e1)).2.2.2
      omega
    · rw [if_neg e1, if_neg e2] at hxy
      exact hS.inj x ((mem_insS.1 hx).resolve_left e1) y ((mem_insS.1 hy).resolve_left e2) hxy
  · rcases mem_insS.1 hx with rfl | hx
    · exact hl
    · exact hS.lenL x hx
  · show ∃ a n c, (updB h.box s _ x).lv = .slice a n c
    unfold updB
    by_cases e : x = s
    · rw [if_pos e]; exact ⟨_, _, _, rfl⟩
    · rw [if_neg e]; exact hS.slc x ((mem_insS.1 hx).resolve_left e)
/-- a house as plain data, as far as it is loaded -/
def partP (p : HouP) (k j : Nat) : HouP := { p with L := p.L.take k, W := p.W.take j }
theorem hou_bring {N : Nat} {wr w5 w6 w7 : World} {H mb mw : Nat} {p : HouP} {k : Nat} {x : Bs} (hh : Hou N wr H mb mw (partP p k 0)) (hs : Sorts p.L) (hx : p.L[k]? = some x) (hl : x.length ≤ 60) (hN : N ≤ wr.heap.size)
    {lv : Value} {ca : Option Addr} {cc : Nat} {xs : List (Let × Value)} (hxs : xs.map (·.1) = (p.c x).ls) (hxr : XRow N wr lv xs) (h5 : wr.alloc (.cells #[.int .i64 (p.c x).valid, .int .i64 (p.c x).next, lv] 48) = w5) (h6 : Below w5.heap.size w5 w6)
    (hv' : w6.ownsRow w5.heap.size 76 4 (.slice ca xs.length cc) xs.length (cellsL xs)) (h7 : w6.setCell ⟨wr.heap.size, 2, none⟩ (.slice ca xs.length cc) = w7) :
    PM w7 mb (p.L.take k) (fun y => (Classical.choose hh |>.box y).blk) ∧ ∀ w8, PM w8 mb (insS x (p.L.take k)) (fun y => if y = x then wr.heap.size else (Classical.choose hh |>.box y).blk) → Kept (fun j => j = mb) w7 w8 → Hou N w8 H mb mw (partP p (k + 1) 0) ∧ Kept (fun j => j = mb) wr w8 := by
  obtain ⟨hS, hR⟩ := Classical.choose_spec hh
  obtain ⟨h, hhe⟩ : ∃ h, Classical.choose hh = h := ⟨_, rfl⟩
  rw [hhe] at hS hR ⊢
  have hLe : h.L = p.L.take k := hR.L
  have hs5 : wr.heap.size < w5.heap.size := by rw [← h5, alloc_size]; exact Nat.lt_succ_self _
  have b5 : Below wr.heap.size wr w5 := h5 ▸ (Below.refl _ _).alloc (Nat.le_refl _) _
  have b6 : Below wr.heap.size wr w6 := b5.trans (h6.mono b5.size)
  have b7 : Below wr.heap.size wr w7 := h7 ▸ b6.setCell (Nat.le_refl _) _
  have x5 : w5.heap[wr.heap.size]? = some (.cells #[.int .i64 (p.c x).valid, .int .i64 (p.c x).next, lv] 48 (0, 0)) := h5 ▸ World.heap_alloc_new wr _
  have x6 := below_same h6 x5
  have x7 : w7.heap[wr.heap.size]? = some (.cells #[.int .i64 (p.c x).valid, .int .i64 (p.c x).next, .slice ca xs.length cc] 48 (0, 0)) := h7 ▸ set3_2 x6
  refine ⟨hLe ▸ (hS.below b7).boxes, fun w8 hP hk => ?_⟩
  rw [← hLe] at hP
  have hnot : x ∉ h.L := by rw [hLe]; exact not_before hs hx
  have hS8 := house_bring hS b7 hnot hl hN (Nat.le_refl _) x7 hP hk
  have hk8 : Kept (fun j => j = mb) wr w8 := (kept_below b7).trans hk
  have hR8 := hR.kept hk8 (spares_house hS (fun j e => Or.inr (Or.inl e)))
  have hxr6 := hxr.below b6
  have hX6 : XRow N w6 (.slice ca xs.length cc) xs := ⟨zrow_owns hv' (fun z hz => by obtain ⟨_, _, _, _, _, hf, _⟩ := hxr6.1; exact hf z hz), safe_owns hv', hxr6.2.2⟩
  have hX7 : XRow N w7 (.slice ca xs.length cc) xs := hX6.kept (S := fun j => j = wr.heap.size) (h7 ▸ (Kept.refl (fun j => j = wr.heap.size) w6).setB _) (fun j _ e => by subst e; exact ⟨hN, not_lettered x6 (by decide) (by decide)⟩)
  have hS7 := hS.below b7
  have hX8 := hX7.kept hk (spares_house hS7 (fun j e => Or.inr (Or.inl e)))
  have hk78 := hk
  refine ⟨⟨_, hS8, ?_, hR.W, hR.next, fun y hy => ?_⟩, hk8⟩
  · show insS x h.L = p.L.take (k + 1)
    rw [hLe]; exact insS_last hs hx
  · show CellOf N w8 (updB h.box x _ y) (p.c y)
    unfold updB
    by_cases e : y = x
    · rw [if_pos e, e]
      exact ⟨rfl, rfl, xs, hxs, hX8⟩
    · rw [if_neg e]
      exact hR8.cell y ((mem_insS.1 hy).resolve_left e)
theorem house_emptyN (N : Nat) (w : World) (nx : Int) (hN : N ≤ w.heap.size) : HouseS N (((w.alloc (.map #[] 0)).alloc (.map #[] 0)).alloc (.cells #[.map (some w.heap.size), .map (some (w.heap.size + 1)), .int .i64 nx] 61)) (w.heap.size + 2) w.heap.size (w.heap.size + 1) ⟨[], fun _ => ⟨0, 0, 0, .slice none 0 0⟩, [], nx⟩ := by
  have s1 := alloc_size w (.map #[] 0)
  have s2 := alloc_size (w.alloc (.map #[] 0)) (.map #[] 0)
  have hn := World.heap_alloc_new ((w.alloc (.map #[] 0)).alloc (.map #[] 0)) (.cells #[.map (some w.heap.size), .map (some (w.heap.size + 1)), .int .i64 nx] 61)
  rw [s2, s1] at hn
  refine { loH := by omega, lob := hN, low := by omega, cells := hn, boxes := ?_, wants := ?_, ne := by omega, box := fun x hx => (by cases hx), inj := fun x hx => (by cases hx), lenL := fun x hx => (by cases hx), lenW := fun x hx => (by cases hx), slc := fun x hx => (by cases hx) }
  · exact (pm_made w _).below (((Below.refl _ _).alloc (Nat.le_refl _) _).alloc (by omega) _)
  · have := wm_made (w.alloc (.map #[] 0))
    rw [s1] at this
    exact this.below ((Below.refl _ _).alloc (Nat.le_refl _) _)
theorem hou_empty (N : Nat) (w : World) (p : HouP) (hN : N ≤ w.heap.size) : Hou N (((w.alloc (.map #[] 0)).alloc (.map #[] 0)).alloc (.cells #[.map (some w.heap.size), .map (some (w.heap.size + 1)), .int .i64 p.next] 61)) (w.heap.size + 2) w.heap.size (w.heap.size + 1) (partP p 0 0) :=
  ⟨_, house_emptyN N w p.next hN, rfl, rfl, rfl, fun x hx => by cases hx⟩
theorem hou_wish {N : Nat} {wr w8 : World} {H mb mw : Nat} {p : HouP} {k j : Nat} {x : Bs} (hh : Hou N wr H mb mw (partP p k j)) (hs : Sorts p.W) (hx : p.W[j]? = some x) (hl : x.length ≤ 60) : WM wr mw (p.W.take j) ∧ (WM w8 mw (insS x (p.W.take j)) → Kept (fun i => i = mw) wr w8 → Hou N w8 H mb mw (partP p k (j + 1))) := by
  obtain ⟨h, hS, hR⟩ := hh
  have hWe : h.W = p.W.take j := hR.W
  refine ⟨hWe ▸ hS.wants, fun hW hk => ?_⟩
  rw [insS_last hs hx] at hW
  obtain ⟨h1, _⟩ := house_want hS (Below.refl _ _) hW hk (fun y hy => by
    rw [List.take_add_one, hx] at hy
    rcases List.mem_append.1 hy with hy | hy
    · exact hS.lenW y (hWe ▸ hy)
    · simp at hy; exact hy ▸ hl)
  have hR' := hR.kept hk (spares_house hS (fun i e => Or.inr (Or.inr (Or.inl e))))
  exact ⟨_, h1, hR'.L, rfl, hR'.next, hR'.cell⟩
set_option maxRecDepth 100000 in
set_option maxHeartbeats 8000000 in
theorem hload_any (N : Nat) (p : HouP) (B : Int) (w : World) (na ba wa : Option Addr) (M nc bc MW wc : Nat) (nx : Int) (hr : SRow w (.slice na M nc) p.L ∧ BRow N w (.slice ba M bc) (p.L.map p.c) ∧ SRow w (.slice wa MW wc) p.W) (hM : p.L.length = M) (hMW : p.W.length = MW) (hnx : p.next = nx) (hF : Full p B) (hN : N ≤ w.heap.size)
    (cR : ∀ W, Below w.heap.size w W → Calls Tryz.prog 41 #[.agg #[.slice na M nc, .slice ba M bc, .slice wa MW wc, .int .i64 nx]] W fun e w' => e = .returned (.bool true) ∧ Below W.heap.size W w') :
    Calls Tryz.prog 15 #[.agg #[.slice na M nc, .slice ba M bc, .slice wa MW wc, .int .i64 nx]] w fun e w' => ∃ H mb mw, e = .returned (.tuple #[.pointer (some ⟨H, 0, none⟩), .nilIface]) ∧ Hid (Hou N w' H mb mw p ∧ w.heap.size ≤ H ∧ w.heap.size ≤ mb ∧ w.heap.size ≤ mw) ∧ Below w.heap.size w w' := by
  have hmm := @run_makeMap Tryz.prog
  obtain ⟨W1, hW1⟩ : ∃ W1, w.alloc (.cells #[.slice na M nc, .slice ba M bc, .slice wa MW wc, .int .i64 nx] 41) = W1 := ⟨_, rfl⟩
  have y1 : Below w.heap.size w W1 := hW1 ▸ (Below.refl _ _).alloc (Nat.le_refl _) _
  have x1 : W1.heap[w.heap.size]? = some (.cells #[.slice na M nc, .slice ba M bc, .slice wa MW wc, .int .i64 nx] 41 (0, 0)) := hW1 ▸ World.heap_alloc_new w _
  have hs1 : w.heap.size < W1.heap.size := by rw [← hW1, alloc_size]; exact Nat.lt_succ_self _
  obtain ⟨k0, k1, k2, k3⟩ := four_cells x1
  have cR1 := cR W1 y1
  have hcell : ∀ W, Below W1.heap.size W1 W → W.cell? ⟨w.heap.size, 0, none⟩ = some (.slice na M nc) ∧ W.cell? ⟨w.heap.size, 1, none⟩ = some (.slice ba M bc) ∧ W.cell? ⟨w.heap.size, 2, none⟩ = some (.slice wa MW wc) ∧ W.cell? ⟨w.heap.size, 3, none⟩ = some (.int .i64 nx) := fun W h => four_cells ((h.block _ hs1).trans x1)
  have HCE := Lib.hid hcell
  have hal : ∀ W, Below W1.heap.size W1 W → Below W1.heap.size W1 ((W.alloc (.map #[] 0)).alloc (.map #[] 0)) := fun W h => (h.alloc h.size _).alloc (by rw [alloc_size]; exact Nat.le_succ_of_le h.size) _
  have HF := Lib.hid hF
  have HRW := Lib.hid hr
  have HM := Lib.hid hM
  have HMW := Lib.hid hMW
  have HNX := Lib.hid hnx
  have HY1 := Lib.hid y1
  have hM30 : M ≤ 30 := hM ▸ hF.inb.many
  have hW60 : MW ≤ 60 := hMW ▸ hF.inb.wants
  clear cR hF hr hM hMW hnx x1 y1 hcell
  go_enter Tryz.func15, Tryz.ntmps15
  go_upto_region 4 with (go_at_call 41; (with_reducible refine cR1.mono ?_); rintro e w2 ⟨rfl, h2⟩; obtain ⟨d0, d1, d2, d3⟩ := HCE.out _ h2; have e3 := (HCE.out _ (hal w2 h2)).2.2.2)
  obtain ⟨W3, hW3⟩ : ∃ W3, ((w2.alloc (.map #[] 0)).alloc (.map #[] 0)).alloc (.cells #[.map (some w2.heap.size), .map (some (w2.heap.size + 1)), .int .i64 nx] 61) = W3 := ⟨_, rfl⟩
  rw [hW3]
  have y2 := (HY1.out.trans (h2.mono HY1.out.size))
  have hh0 := hou_empty N w2 p (Nat.le_trans hN y2.size)
  rw [HNX.out, hW3] at hh0
  have y3 : Below W1.heap.size W1 W3 := hW3 ▸ (hal w2 h2).alloc (hal w2 h2).size _
  obtain ⟨H, hH⟩ : ∃ H, w2.heap.size + 1 + 1 = H := ⟨_, rfl⟩
  have hH2 : w2.heap.size + 2 = H := by omega
  rw [hH2] at hh0
  rw [hH]
  obtain ⟨mw, hmw⟩ : ∃ mw, w2.heap.size + 1 = mw := ⟨_, rfl⟩
  rw [hmw] at hh0 ⊢
  obtain ⟨mb, hmb⟩ : ∃ mb, w2.heap.size = mb := ⟨_, rfl⟩
  rw [hmb] at hh0 ⊢
  have hsz2 := h2.size
  have HMB : Hid (W1.heap.size ≤ mb) := Lib.hid (by rw [← hmb]; exact hsz2)
  have HMWL : Hid (W1.heap.size ≤ mw) := Lib.hid (by rw [← hmw]; exact Nat.le_succ_of_le hsz2)
  have HLO : Hid (w.heap.size ≤ H ∧ w.heap.size ≤ mb ∧ w.heap.size ≤ mw) := Lib.hid (by have := HMB.out; have := HMWL.out; omega)
  obtain ⟨d0, _, _, _⟩ := HCE.out _ y3
  have HH0 := Lib.hid hh0
  have HY3 := Lib.hid y3
  clear hW3 hh0 y3 hH hH2 hmw hmb h2 hsz2 y2 hal hmm e3 k0 k1 k2 k3 cR1
  go_wp2_with fail
  go_loopg [23] M (fun g s23 wr => ∃ k : Nat, k + g = M ∧ s23 = .int .i64 (k : Int) ∧ Hid (Hou N wr H mb mw (partP p k 0)) ∧ Hid (Below W1.heap.size W1 wr))
  case atStart => exact ⟨0, by omega, rfl, HH0.out, HY3.out⟩
  case round =>
    obtain ⟨k, hk, rfl, HH, HB⟩ := hrel
    have hbw := HY1.out.trans (HB.out.mono HY1.out.size)
    obtain ⟨d0, d1, d2, d3⟩ := HCE.out _ HB.out
    by_cases hlt : k < M
    · obtain ⟨g', rfl⟩ : ∃ g', gk = g' + 1 := ⟨gk - 1, by omega⟩
      have hltL : k < p.L.length := by rw [HM.out]; exact hlt
      obtain ⟨x, hx⟩ : ∃ x, p.L[k]? = some x := ⟨p.L[k], List.getElem?_eq_getElem hltL⟩
      have hxL := List.mem_of_getElem? hx
      obtain ⟨ao, cap, hao, _, _, hnc⟩ := HRW.out.1
      obtain ⟨nb, noff, hae, hnb, n0⟩ := hnc k x hx
      obtain rfl : na = some ⟨nb, noff, none⟩ := by
        injection hao with e _ _
        rw [e, hae]
      obtain ⟨ao2, cap2, hao2, _, _, hbc⟩ := HRW.out.2.1
      obtain ⟨bb, boff, lv, zs, hbe, hbb, b0, b1, b2, hzs, hxr⟩ := hbc k (p.c x) (by rw [List.getElem?_map, hx]; rfl)
      obtain rfl : ba = some ⟨bb, boff, none⟩ := by
        injection hao2 with e _ _
        rw [e, hbe]
      have hxr2 := hxr.below hbw
      obtain ⟨la, lc, rfl, _⟩ := hxr.1
      have m0 := (hbw.cell (p := ⟨nb, _, none⟩) hnb).trans n0
      have q0 := (hbw.cell (p := ⟨bb, _, none⟩) hbb).trans b0
      have q1 := (hbw.cell (p := ⟨bb, _, none⟩) hbb).trans b1
      have q2 := (hbw.cell (p := ⟨bb, _, none⟩) hbb).trans b2
      have hxl := (hnameF_len (HF.out.named.name x hxL)).1
      have hzl : zs.length ≤ 60 := by rw [← List.length_map (f := (·.1)), hzs]; exact (HF.out.inb.box x hxL).2
      obtain ⟨w5, hw5⟩ : ∃ w5, wr.alloc (.cells #[.int .i64 (p.c x).valid, .int .i64 (p.c x).next, .slice la zs.length lc] 48) = w5 := ⟨_, rfl⟩
      have b5 : Below wr.heap.size wr w5 := hw5 ▸ (Below.refl _ _).alloc (Nat.le_refl _) _
      have x5 : w5.heap[wr.heap.size]? = some (.cells #[.int .i64 (p.c x).valid, .int .i64 (p.c x).next, .slice la zs.length lc] 48 (0, 0)) := hw5 ▸ World.heap_alloc_new wr _
      have cC : Calls Tryz.prog 35 #[.slice la zs.length lc] w5 fun e w' => ∃ ca cc, e = .returned (.slice ca zs.length cc) ∧ Hid (w'.ownsRow w5.heap.size 76 4 (.slice ca zs.length cc) zs.length (cellsL zs)) ∧ Below w5.heap.size w5 w' := (cloneL_any (.slice la zs.length lc) zs w5 (hxr2.1.below b5) (by omega)).mono (by
        rintro e w' ⟨v, rfl, hrow, hb⟩
        obtain ⟨ca, cc, rfl⟩ := owns_val hrow
        exact ⟨ca, cc, rfl, hrow, hb⟩)
      obtain ⟨k0, k1, k2⟩ := three_cells x5
      have hkz : (k : Int) < (M : Int) := by omega
      obtain ⟨f, hf⟩ : ∃ f : Bs → Nat, (fun y => (Classical.choose HH.out |>.box y).blk) = f := ⟨_, rfl⟩
      have hfacts : ∀ w6 ca cc, Below w5.heap.size w5 w6 → Hid (w6.ownsRow w5.heap.size 76 4 (.slice ca zs.length cc) zs.length (cellsL zs)) → w6.frozen? ⟨wr.heap.size, 2, none⟩ = false ∧ w6.cell? ⟨wr.heap.size, 2, none⟩ = some (.slice la zs.length lc) ∧ (w6.setCell ⟨wr.heap.size, 2, none⟩ (.slice ca zs.length cc)).cell? ⟨H, 0, none⟩ = some (.map (some mb)) ∧ Hid (PM (w6.setCell ⟨wr.heap.size, 2, none⟩ (.slice ca zs.length cc)) mb (p.L.take k) f) ∧ Hid (∀ w8, PM w8 mb (insS x (p.L.take k)) (fun y => if y = x then wr.heap.size else f y) → Kept (fun j => j = mb) (w6.setCell ⟨wr.heap.size, 2, none⟩ (.slice ca zs.length cc)) w8 → Hou N w8 H mb mw (partP p (k + 1) 0) ∧ Kept (fun j => j = mb) wr w8) := fun w6 ca cc h6 hv' => by
        have x6 := below_same h6 x5
        have b6 : Below wr.heap.size wr w6 := b5.trans (h6.mono b5.size)
        have b7 : Below wr.heap.size wr (w6.setCell ⟨wr.heap.size, 2, none⟩ (.slice ca zs.length cc)) := b6.setCell (Nat.le_refl _) _
        obtain ⟨hP, hnext⟩ := hou_bring HH.out HF.out.good.sorts hx hxl (Nat.le_trans hN hbw.size) hzs hxr2 hw5 h6 hv'.out rfl
        obtain ⟨hc, hS, _⟩ := HH.out
        subst hf
        exact ⟨Lib.frozen_of_heap x6 2, (three_cells x6).2.2, (three_cells (hS.below b7).cells).1, hP, hnext⟩
      have HFA := Lib.hid hfacts
      obtain ⟨bxv, hbxv⟩ : ∃ v, (p.c x).valid = v := ⟨_, rfl⟩
      obtain ⟨bxn, hbxn⟩ : ∃ v, (p.c x).next = v := ⟨_, rfl⟩
      rw [hbxv] at q0 k0 hw5
      rw [hbxn] at q1 k1 hw5
      have hlk : (p.L.take k).length ≤ 1000000 := by rw [List.length_take]; omega
      clear hx hxL hao hae hnc hao2 hbe hbc b0 b1 b2 n0 hzs hxr hxr2 x5 b5 hf hfacts hbxv hbxn
      go_wp2_with (first
        | (go_at_call 35; with_reducible refine cC.mono ?_; rintro e w6 ⟨ca, cc, rfl, hrow6, h6⟩; obtain ⟨f6, c6, s7, P7, N7⟩ := HFA.out w6 ca cc h6 hrow6)
        | (at_mapUpdate; go_must (refine wpList_store_pm _ rfl _ _ _ rfl mb (p.L.take k) f rfl P7.out x rfl (by omega) wr.heap.size rfl hlk ?_); intro w8 hP8 hK8))
      have hnew := N7.out w8 hP8 hK8
      have hmbl := HMB.out
      go_wp2_with fail
      go_roundg g'
      case measure => omega
      case rel => exact ⟨k + 1, by omega, by go_num, hnew.1, HB.out.trans (hnew.2.below HB.out.size (fun j e => e ▸ hmbl))⟩
    · obtain rfl : k = M := by omega
      clear HH0 HY3
      have HB0 := HB
      go_wp2_with fail
      go_loopg [46] MW (fun g s46 wr => ∃ j : Nat, j + g = MW ∧ s46 = .int .i64 (j : Int) ∧ Hid (Hou N wr H mb mw (partP p k j)) ∧ Hid (Below W1.heap.size W1 wr))
      case atStart => exact ⟨0, by omega, rfl, HH, HB0⟩
      case round =>
        clear HH HB HB0 hbw d0 d1 d2 d3
        obtain ⟨j, hj, rfl, HH, HB⟩ := hrel
        have hbw := HY1.out.trans (HB.out.mono HY1.out.size)
        by_cases hltj : j < MW
        · obtain ⟨g', rfl⟩ : ∃ g', gk = g' + 1 := ⟨gk - 1, by omega⟩
          obtain ⟨x, hx⟩ : ∃ x, p.W[j]? = some x := ⟨p.W[j]'(by rw [HMW.out]; exact hltj), List.getElem?_eq_getElem _⟩
          have hxW := List.mem_of_getElem? hx
          obtain ⟨ao, cap, hao, _, _, hnc⟩ := HRW.out.2.2
          obtain ⟨nb, noff, hae, hnb, n0⟩ := hnc j x hx
          obtain rfl : wa = some ⟨nb, noff, none⟩ := by
            injection hao with e _ _
            rw [e, hae]
          have m0 := (hbw.cell (p := ⟨nb, _, none⟩) hnb).trans n0
          have hxl := (hnameF_len (HF.out.named.want x hxW)).1
          have hwish := fun w8 => hou_wish (w8 := w8) HH.out HF.out.named.sorts hx hxl
          have hWM := Lib.hid (hwish wr).1
          have hc1 : wr.cell? ⟨H, 1, none⟩ = some (.map (some mw)) := by
            obtain ⟨hc, hS, _⟩ := HH.out
            exact (three_cells hS.cells).2.1
          have HWI := Lib.hid (fun w8 => (hwish w8).2)
          have hlk : (p.W.take j).length ≤ 1000000 := by rw [List.length_take]; omega
          have hjz : (j : Int) < (MW : Int) := by omega
          clear hx hxW hao hae hnc n0 hwish
          go_wp2_with (at_mapUpdate; go_must (refine wpList_store_wm _ rfl _ _ _ rfl mw (p.W.take j) rfl hWM.out x rfl (by omega) rfl hlk ?_); intro w8 hW8 hK8)
          have hnew := HWI.out w8 hW8 hK8
          have hmwl := HMWL.out
          go_wp2_with fail
          go_roundg g'
          case measure => omega
          case rel => exact ⟨j + 1, by omega, by go_num, hnew, HB.out.trans (hK8.below HB.out.size (fun i e => e ▸ hmwl))⟩
        · obtain rfl : j = MW := by omega
          have hfin : partP p k j = p := by
            unfold partP
            rw [← HM.out, ← HMW.out, List.take_length, List.take_length]
          have HFI : Hid (Hou N wr H mb mw p ∧ w.heap.size ≤ H ∧ w.heap.size ≤ mb ∧ w.heap.size ≤ mw) := Lib.hid ⟨hfin ▸ HH.out, HLO.out⟩
          clear hfin
          go_wp2_with fail
          go_ret2
          exact ⟨H, mb, mw, rfl, HFI, hbw⟩
end Go.Proofs.YtdlfbhbgemoelaaGreatDoor
