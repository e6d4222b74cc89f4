/- The walk over the statements' all: it returns the text of all that a house has. Conditions: strconv's table of powers lies as the program's text lays it. -/
import Derived.Test.YtdlfbhbgemoelaaGreatDoorHouX
import Derived.Test.YtdlfbhbgemoelaaGreatDoorPHouse11
import Derived.IntWalk
namespace Go.Proofs.YtdlfbhbgemoelaaGreatDoor
open Go.RowKit Go.Shelf Go.Sort Go.Maps
set_option linter.unusedSimpArgs false

theorem varH_below {w w' : World} {n : String} {cs : Array Value} (h : w.var? Tryz.prog n = some cs) (hb : Below w.heap.size w w') : w'.var? Tryz.prog n = some cs := by
  unfold World.var? at h ⊢
  cases hg : Tryz.prog.globalNamed n with
  | none => rw [hg] at h; simp at h
  | some g =>
    rw [hg] at h
    simp only [Option.bind_some, Option.bind_eq_bind] at h ⊢
    cases ho : w.heap[g]? with
    | none => simp [ho] at h
    | some o =>
      rw [below_same hb ho]
      simpa [ho] using h
def TabP (w : World) : Prop := Lib.TabIs Tryz.prog w "internal/strconv.uint64pow10" .u64 Lib.pow10Tab
theorem TabP.below {w w' : World} (h : TabP w) (hb : Below w.heap.size w w') : TabP w' := varH_below h hb
theorem hitoa_any (v : Int) (w : World) (h0 : 0 ≤ v) (h1 : v ≤ 2147483647) (hT : TabP w) :
    Calls Tryz.prog 42 #[.int .i64 v] w fun e w' => e = .returned (.string ⟨(Lib.itoa v).toArray⟩) ∧ Below w.heap.size w w' := by
  refine (Tryz.strconv_Itoa v (by omega) (by omega) w hT).mono ?_
  rintro e w' ⟨rfl, k, os, rfl⟩
  refine ⟨rfl, rfl, rfl, rfl, ?_, ?_⟩
  · simp [grow]
  · intro j hj
    show (w.heap ++ os)[j]? = w.heap[j]?
    exact Array.getElem?_append_left hj
theorem joinC_any (c : UInt8) (v : Value) (l : List (List UInt8)) (w : World) (hv : SRow w v l) (hl : l.length ≤ 1000) (ht : ∀ t ∈ l, t.length ≤ 100000) :
    Calls Tryz.prog 43 #[v, .string ⟨#[c]⟩] w fun e w' => e = .returned (.string ⟨(Lib.join l [c]).toArray⟩) ∧ Below w.heap.size w w' := by
  obtain ⟨ao, cap, rfl, hcap, _, hcell⟩ := hv
  have hj := joinC_le c l ht
  have hmul : l.length * 100001 ≤ 1000 * 100001 := Nat.mul_le_mul_right _ hl
  cases l with
  | nil => exact (Tryz.strings_Join_none ao cap ⟨#[c]⟩ w).mono (by rintro e w' ⟨rfl, rfl⟩; exact ⟨rfl, Below.refl _ _⟩)
  | cons x r =>
    obtain ⟨b, off, rfl, hb, _⟩ := hcell 0 x rfl
    have e1 : ((x :: r).map fun t => (⟨t.toArray⟩ : ByteArray)).map (·.data.toList) = x :: r := by simp [Function.comp_def]
    have h := Tryz.strings_Join b off cap ((x :: r).map fun t => ⟨t.toArray⟩) ⟨#[c]⟩ w (fun j y hy => by
      rw [List.getElem?_map] at hy
      obtain ⟨u, hu, rfl⟩ := Option.map_eq_some_iff.1 hy
      obtain ⟨b', off', e1, _, e3⟩ := hcell j u hu
      cases e1
      exact e3) hb (by simp only [List.length_map]; omega) (by simpa using hcap) (by rw [e1]; show (Lib.join (x :: r) [c]).length ≤ _; omega)
    rw [e1] at h
    simpa using h
theorem cellsL_pick : ∀ (zs : List (Let × Value)) (j : Nat) (z : Let × Value) (i : Nat), i < 4 → zs[j]? = some z → (cellsL zs)[j * 4 + i]? = (cells1 z)[i]?
  | y :: zs, 0, z, i, hi, h => by
    cases h
    show (cells1 y ++ cellsL zs)[0 * 4 + i]? = _
    rw [Nat.zero_mul, Nat.zero_add, List.getElem?_append_left (by show i < 4; exact hi)]
  | y :: zs, j + 1, z, i, hi, h => by
    show (cells1 y ++ cellsL zs)[(j + 1) * 4 + i]? = _
    rw [show (j + 1) * 4 + i = (j * 4 + i) + 4 by omega, List.getElem?_append_right (by show 4 ≤ _; omega)]
    show (cellsL zs)[j * 4 + i + 4 - 4]? = _
    rw [Nat.add_sub_cancel]
    exact cellsL_pick zs j z i hi (by simpa using h)
theorem xrow_let {N : Nat} {w : World} {v : Value} {zs : List (Let × Value)} (h : XRow N w v zs) {j : Nat} {z : Let × Value} (hz : zs[j]? = some z) : ∃ b off cap, v = .slice (some ⟨b, off, none⟩) zs.length cap ∧ b < w.heap.size ∧ w.cell? ⟨b, off + j * 4, none⟩ = some (.int .i64 z.1.uid) ∧ w.cell? ⟨b, off + j * 4 + 1, none⟩ = some z.2 ∧ w.cell? ⟨b, off + j * 4 + 2, none⟩ = some (.int .i64 z.1.day) ∧ w.cell? ⟨b, off + j * 4 + 3, none⟩ = some (.string ⟨z.1.text.toArray⟩) ∧ SRow w z.2 z.1.flags := by
  obtain ⟨⟨ao, cap, rfl, _, _, hfls, hcell⟩, _, _⟩ := h
  have hq : ∀ i u, i < 4 → (cells1 z)[i]? = some u → ∃ p off, ao = some ⟨p, off, none⟩ ∧ p < w.heap.size ∧ w.cell? ⟨p, off + j * 4 + i, none⟩ = some u := fun i u hi hu => by
    obtain ⟨p, off, e1, e2, e3⟩ := hcell (j * 4 + i) u (by rw [cellsL_pick zs j z i hi hz]; exact hu)
    exact ⟨p, off, e1, e2, by rw [Nat.add_assoc]; exact e3⟩
  obtain ⟨b, off, rfl, hb, c0⟩ := hq 0 _ (by omega) rfl
  have hq2 : ∀ i u, i < 4 → (cells1 z)[i]? = some u → w.cell? ⟨b, off + j * 4 + i, none⟩ = some u := fun i u hi hu => by
    obtain ⟨p', off', e1, _, e2⟩ := hq i u hi hu
    cases e1; exact e2
  exact ⟨b, off, cap, rfl, hb, c0, hq2 1 _ (by omega) rfl, hq2 2 _ (by omega) rfl, hq2 3 _ (by omega) rfl, hfls z (List.mem_of_getElem? hz)⟩
/-- Save's result by its parts -/
theorem hsave_parts (N H mb mw : Nat) (p : HouP) (w : World) (hh : Hou N w H mb mw p) (hB : InB p 3000000000) (hN : N ≤ w.heap.size) (M MW : Nat) (nx : Int) (hM : p.L.length = M) (hMW : p.W.length = MW) (hnx : p.next = nx) :
    Calls Tryz.prog 11 #[.pointer (some ⟨H, 0, none⟩)] w fun e w' => ∃ na nc ba bc wa wc, e = .returned (.agg #[.slice na M nc, .slice ba M bc, .slice wa MW wc, .int .i64 nx]) ∧ Hid (SRow w' (.slice na M nc) p.L ∧ BRow N w' (.slice ba M bc) (p.L.map p.c) ∧ SRow w' (.slice wa MW wc) p.W) ∧ Below w.heap.size w w' := by
  refine (hsave_any N H mb mw p w hh hB hN).mono ?_
  rintro e w' ⟨v, rfl, ⟨nv, bv, wv, rfl, h1, h2, h3⟩, hb⟩
  have h1' := h1
  have h2' := h2
  have h3' := h3
  obtain ⟨na, nc, rfl, _⟩ := h1'
  obtain ⟨ba, bc, rfl, _⟩ := h2'
  obtain ⟨wa, wc, rfl, _⟩ := h3'
  rw [List.length_map] at h2 ⊢
  rw [hM] at h1 h2 ⊢
  rw [hMW] at h3 ⊢
  rw [hnx]
  exact ⟨na, nc, ba, bc, wa, wc, rfl, ⟨h1, h2, h3⟩, hb⟩
/-- how two texts are joined -/
theorem cat_eq {a b q : Bs} (h : q = a ++ b) : (⟨a.toArray⟩ : ByteArray) ++ ⟨b.toArray⟩ = ⟨q.toArray⟩ := by rw [h]; exact text_cat _ _
theorem setF_short {f : List (List UInt8)} (h : setF f = .inr f) : Short f := ⟨by have := (set_ok h).2.2; omega, fun t ht => by have := set_short h t ht; omega⟩
set_option maxRecDepth 100000 in
set_option maxHeartbeats 8000000 in
theorem all_any (N H mb mw : Nat) (p : HouP) (B : Int) (w : World) (hh : Hou N w H mb mw p) (hF : Full p B) (hB : B ≤ 2147483647) (hN : N ≤ w.heap.size) (hT : TabP w) :
    Calls Tryz.prog 16 #[.pointer (some ⟨H, 0, none⟩)] w fun e w' => e = .returned (.string ⟨(allT p).toArray⟩) ∧ Below w.heap.size w w' := by
  obtain ⟨M, hM⟩ : ∃ M, p.L.length = M := ⟨_, rfl⟩
  obtain ⟨MW, hMW⟩ : ∃ M, p.W.length = M := ⟨_, rfl⟩
  obtain ⟨nx, hnx⟩ : ∃ nx, p.next = nx := ⟨_, rfl⟩
  have cS := hsave_parts N H mb mw p w hh (hF.inb.mono (by omega)) hN M MW nx hM hMW hnx
  have hlo := hF.inb.lo
  have hhi := hF.inb.hi
  rw [hnx] at hlo hhi
  have HFU := Lib.hid hF
  have HTW := Lib.hid hT
  have hM30 : M ≤ 30 := hM ▸ hF.inb.many
  have hw60 : MW ≤ 60 := hMW ▸ hF.inb.wants
  have cJ : ∀ W v, SRow W v p.W → Calls Tryz.prog 43 #[v, .string ⟨#[44]⟩] W fun e w' => e = .returned (.string ⟨(Lib.join p.W [44]).toArray⟩) ∧ Below W.heap.size W w' := fun W v hv => joinC_any 44 v p.W W hv (by omega) (fun t ht => by have := (hnameF_len (hF.named.want t ht)).1; omega)
  have cI0 := fun W hW => hitoa_any nx W hlo (by omega) hW
  have hO0 := out_zero p
  rw [hnx] at hO0
  have hl0 := out_le hF hB 0
  obtain ⟨I0, hI0⟩ : ∃ O, Lib.itoa nx = O := ⟨_, rfl⟩
  obtain ⟨J0, hJ0⟩ : ∃ O, Lib.join p.W [44] = O := ⟨_, rfl⟩
  obtain ⟨O0, hQ0⟩ : ∃ O, outT p 0 = O := ⟨_, rfl⟩
  rw [hI0] at cI0 hO0
  rw [hJ0] at cJ hO0
  rw [hQ0] at hO0 hl0
  have a0 := cat_eq hO0
  have tI := text_size I0
  have tJ := text_size J0
  have z0 : ¬(9223372036854775807 < I0.length + J0.length) := by rw [hO0, List.length_append] at hl0; omega
  have HM := Lib.hid hM
  have HMW := Lib.hid hMW
  have HNX := Lib.hid hnx
  have HQ0 := Lib.hid hQ0
  have HCJ := Lib.hid cJ
  clear hh hF hT hI0 hJ0 hQ0 hO0 hl0 cJ
  go_enter Tryz.func16, Tryz.ntmps16
  go_upto_region 2 with (go_at_call 11; (with_reducible refine cS.mono ?_); rintro e w1 ⟨na, nc, ba, bc, wa, wc, rfl, HR, hb1⟩)
  clear cS
  obtain ⟨W1, hW1⟩ : ∃ W1, w1.alloc (.cells #[.slice na M nc, .slice ba M bc, .slice wa MW wc, .int .i64 nx] 41) = W1 := ⟨_, rfl⟩
  rw [hW1]
  have hs1 : w1.heap.size < W1.heap.size := by rw [← hW1, alloc_size]; exact Nat.lt_succ_self _
  have yA : Below w1.heap.size w1 W1 := hW1 ▸ (Below.refl _ _).alloc (Nat.le_refl _) _
  have xS : W1.heap[w1.heap.size]? = some (.cells #[.slice na M nc, .slice ba M bc, .slice wa MW wc, .int .i64 nx] 41 (0, 0)) := hW1 ▸ World.heap_alloc_new w1 _
  clear hW1
  obtain ⟨SB, hSB⟩ : ∃ SB, w1.heap.size = SB := ⟨_, rfl⟩
  have hr := HR.out
  have HRW : Hid (SRow W1 (.slice na M nc) p.L ∧ BRow N W1 (.slice ba M bc) (p.L.map p.c) ∧ SRow W1 (.slice wa MW wc) p.W) := ⟨hr.1.below yA, hr.2.1.below yA, hr.2.2.below yA⟩
  have hb2 := hb1.trans (yA.mono hb1.size)
  rw [hSB] at hs1 xS ⊢
  clear hSB HR hr yA hb1
  have HB2 := Lib.hid hb2
  have hcell : ∀ W, Below W1.heap.size W1 W → W.cell? ⟨SB, 0, none⟩ = some (.slice na M nc) ∧ W.cell? ⟨SB, 1, none⟩ = some (.slice ba M bc) ∧ W.cell? ⟨SB, 2, none⟩ = some (.slice wa MW wc) ∧ W.cell? ⟨SB, 3, none⟩ = some (.int .i64 nx) := fun W h => four_cells ((h.block SB hs1).trans xS)
  have htab : ∀ W, Below W1.heap.size W1 W → TabP W := fun W h => HTW.out.below (hb2.trans (h.mono hb2.size))
  have hrow : ∀ W, Below W1.heap.size W1 W → SRow W (.slice wa MW wc) p.W := fun W h => HRW.out.2.2.below h
  clear hb2 xS
  go_cut [4] (fun s4 wx => s4 = .string ⟨O0.toArray⟩ ∧ Hid (Below W1.heap.size W1 wx))
  case first =>
    have y : Below W1.heap.size W1 W1.drew := (Below.refl _ _).drew
    go_region_held3 (fun W => W.cell? ⟨SB, 2, none⟩ = some (.slice wa MW wc) ∧ W.cell? ⟨SB, 3, none⟩ = some (.int .i64 nx))
      (first | exact ⟨(hcell _ y).2.2.1, (hcell _ y).2.2.2⟩)
      (first
        | (go_at_call 42; with_reducible refine (cI0 _ (htab _ y)).mono ?_; rintro e w2 ⟨rfl, h2⟩; have y := y.trans (h2.mono y.size))
        | (go_at_call 43; with_reducible refine (HCJ.out _ _ (hrow _ y)).mono ?_; rintro e w3 ⟨rfl, h3⟩; have y := y.trans (h3.mono y.size)))
    go_wp2_with fail
    go_meet
    exact ⟨rfl, y⟩
  case rest =>
    obtain ⟨rfl, HY1⟩ := hcut
    clear a0 tI tJ z0 cI0 hrow HCJ hlo hhi
    have HCELL := Lib.hid hcell
    have HTAB := Lib.hid htab
    clear hcell htab
    go_wp2_with fail
    go_loopg [4, 5] M (fun g s4 s5 wr => ∃ k : Nat, k + g = M ∧ s5 = .int .i64 (k : Int) ∧ s4 = .string ⟨(outT p k).toArray⟩ ∧ Hid (Below W1.heap.size W1 wr))
    case atStart => exact ⟨0, by omega, rfl, by rw [HQ0.out], HY1⟩
    case round =>
      obtain ⟨k, hk, rfl, rfl, HYR⟩ := hrel
      clear HY1
      obtain ⟨c0, c1, c2, c3⟩ := HCELL.out wr HYR.out
      by_cases hlt : k < M
      · obtain ⟨g', rfl⟩ : ∃ g', gk = g' + 1 := ⟨gk - 1, by omega⟩
        have hltL : k < p.L.length := by rw [HM.out]; exact hlt
        obtain ⟨x, hx⟩ : ∃ x, p.L[k]? = some x := ⟨p.L[k], List.getElem?_eq_getElem hltL⟩
        have hxL := List.mem_of_getElem? hx
        obtain ⟨ao, cap, hao, _, _, hnc⟩ := HRW.out.1
        obtain ⟨nb, noff, hae, hnb, n0⟩ := hnc k x hx
        obtain rfl : na = some ⟨nb, noff, none⟩ := by
          injection hao with e _ _
          rw [e, hae]
        obtain ⟨ao2, cap2, hao2, _, _, hbc⟩ := HRW.out.2.1
        obtain ⟨bb, boff, lv, zs, hbe, hbb, b0, b1, b2, hzs, hxr⟩ := hbc k (p.c x) (by rw [List.getElem?_map, hx]; rfl)
        obtain rfl : ba = some ⟨bb, boff, none⟩ := by
          injection hao2 with e _ _
          rw [e, hbe]
        have hri := HFU.out.good.right x hxL
        obtain ⟨_, hv, hn, hll⟩ := right_parts hri
        unfold maxN at hv hn
        have hout := out_le HFU.out hB k
        have hhd := headT_le (hnameF_len (HFU.out.named.name x hxL)).1 hri
        have hxl := (hnameF_len (HFU.out.named.name x hxL)).1
        have hlets := fun j => lets_le hri j
        have hstep := out_step hx
        have hletf : ∀ y ∈ (p.c x).ls, _ := fun y hy => let_of hri hy
        have hletl : ∀ y ∈ (p.c x).ls, (letT y).length ≤ 7000000000 := fun y hy => letT_le hri hy
        obtain ⟨O, hO⟩ : ∃ O, outT p k = O := ⟨_, rfl⟩
        obtain ⟨bx, hbx⟩ : ∃ b, p.c x = b := ⟨_, rfl⟩
        rw [hO] at hout hstep ⊢
        rw [hbx] at hv hn hll hhd hlets hstep hletf hletl b0 b1 hzs
        have hq5 : headT x bx = [124] ++ x ++ [32] ++ Lib.itoa bx.valid ++ [32] ++ Lib.itoa bx.next := rfl
        have cV := fun W hW => hitoa_any bx.valid W (by omega) hv.2 hW
        have cX := fun W hW => hitoa_any bx.next W (by omega) hn.2 hW
        obtain ⟨V, hV⟩ : ∃ V, Lib.itoa bx.valid = V := ⟨_, rfl⟩
        obtain ⟨X, hX⟩ : ∃ V, Lib.itoa bx.next = V := ⟨_, rfl⟩
        obtain ⟨q5, hQ5⟩ : ∃ q, headT x bx = q := ⟨_, rfl⟩
        rw [hV] at cV hq5
        rw [hX] at cX hq5
        rw [hQ5] at hq5 hhd
        obtain ⟨q1, hq1⟩ : ∃ q, q = [124] ++ x := ⟨_, rfl⟩
        obtain ⟨q2, hq2⟩ : ∃ q, q = q1 ++ [32] := ⟨_, rfl⟩
        obtain ⟨q3, hq3⟩ : ∃ q, q = q2 ++ V := ⟨_, rfl⟩
        obtain ⟨q4, hq4⟩ : ∃ q, q = q3 ++ [32] := ⟨_, rfl⟩
        obtain ⟨q6, hq6⟩ : ∃ q, q = O ++ q5 := ⟨_, rfl⟩
        rw [← hq1, ← hq2, ← hq3, ← hq4] at hq5
        have a1 : (⟨#[124]⟩ : ByteArray) ++ ⟨x.toArray⟩ = ⟨q1.toArray⟩ := cat_eq hq1
        have a2 : (⟨q1.toArray⟩ : ByteArray) ++ ⟨#[32]⟩ = ⟨q2.toArray⟩ := cat_eq hq2
        have a3 := cat_eq hq3
        have a4 : (⟨q3.toArray⟩ : ByteArray) ++ ⟨#[32]⟩ = ⟨q4.toArray⟩ := cat_eq hq4
        have a5 := cat_eq hq5
        have a6 := cat_eq hq6
        have l1 : q1.length = 1 + x.length := by rw [hq1, List.length_append]; rfl
        have l2 : q2.length = q1.length + 1 := by rw [hq2, List.length_append]; rfl
        have l3 : q3.length = q2.length + V.length := by rw [hq3, List.length_append]
        have l4 : q4.length = q3.length + 1 := by rw [hq4, List.length_append]; rfl
        have l5 : q5.length = q4.length + X.length := by rw [hq5, List.length_append]
        have l6 : q6.length = O.length + q5.length := by rw [hq6, List.length_append]
        have tx := text_size x
        have t1 := text_size q1
        have t2 := text_size q2
        have t3 := text_size q3
        have t4 := text_size q4
        have t5 := text_size q5
        have tV := text_size V
        have tX := text_size X
        have tO := text_size O
        have z1 : ¬(9223372036854775807 < 1 + x.length) := by omega
        have z2 : ¬(9223372036854775807 < q1.length + 1) := by omega
        have z3 : ¬(9223372036854775807 < q2.length + V.length) := by omega
        have z4 : ¬(9223372036854775807 < q3.length + 1) := by omega
        have z5 : ¬(9223372036854775807 < q4.length + X.length) := by omega
        have z6 : ¬(9223372036854775807 < O.length + q5.length) := by omega
        have hl6 : q6.length ≤ 14004300000000 := by omega
        have hkz : (k : Int) < (M : Int) := by omega
        have hcl : ∀ W, Below W1.heap.size W1 W → W.cell? ⟨SB, 0, none⟩ = some (.slice (some ⟨nb, noff, none⟩) M nc) ∧ W.cell? ⟨SB, 1, none⟩ = some (.slice (some ⟨bb, boff, none⟩) M bc) ∧ W.cell? ⟨nb, noff + k, none⟩ = some (.string ⟨x.toArray⟩) ∧ W.cell? ⟨bb, boff + k * 3, none⟩ = some (.int .i64 bx.valid) ∧ W.cell? ⟨bb, boff + k * 3 + 1, none⟩ = some (.int .i64 bx.next) ∧ W.cell? ⟨bb, boff + k * 3 + 2, none⟩ = some lv := fun W h => by
          obtain ⟨e0, e1, _, _⟩ := HCELL.out W h
          exact ⟨e0, e1, (h.cell (p := ⟨nb, _, none⟩) hnb).trans n0, (h.cell (p := ⟨bb, _, none⟩) hbb).trans b0, (h.cell (p := ⟨bb, _, none⟩) hbb).trans b1, (h.cell (p := ⟨bb, _, none⟩) hbb).trans b2⟩
        have HQ6 := Lib.hid hq6
        have HQ5 := Lib.hid hQ5
        have HST := Lib.hid hstep
        have HZS := Lib.hid hzs
        have HXR := Lib.hid hxr
        have HLF := Lib.hid hletf
        have HLL := Lib.hid hletl
        have HLT := Lib.hid hlets
        clear hq1 hq2 hq3 hq4 hq5 hq6 hV hX hQ5 hO hbx hx hxL hao hae hnc hao2 hbe hbc hri hout hhd hxl hlets hstep hletf hletl l1 l2 l3 l4 l5 l6 n0 b0 b1 b2 hzs hxr hv hn
        go_upto_region 6 with fail
        go_cut [4] (fun s4 wx => s4 = .string ⟨q6.toArray⟩ ∧ Hid (Below W1.heap.size W1 wx))
        case first =>
          have y : Below W1.heap.size W1 wr.drew := HYR.out.drew
          go_region_held3 (fun W => W.cell? ⟨SB, 0, none⟩ = some (.slice (some ⟨nb, noff, none⟩) M nc) ∧ W.cell? ⟨SB, 1, none⟩ = some (.slice (some ⟨bb, boff, none⟩) M bc) ∧ W.cell? ⟨nb, noff + k, none⟩ = some (.string ⟨x.toArray⟩) ∧ W.cell? ⟨bb, boff + k * 3, none⟩ = some (.int .i64 bx.valid) ∧ W.cell? ⟨bb, boff + k * 3 + 1, none⟩ = some (.int .i64 bx.next))
            (first | exact ⟨(hcl _ y).1, (hcl _ y).2.1, (hcl _ y).2.2.1, (hcl _ y).2.2.2.1, (hcl _ y).2.2.2.2.1⟩)
            (first
              | (go_at_call 42; with_reducible refine (cV _ (HTAB.out _ y)).mono ?_; rintro e w2 ⟨rfl, h2⟩; have y := y.trans (h2.mono y.size))
              | (go_at_call 42; with_reducible refine (cX _ (HTAB.out _ y)).mono ?_; rintro e w3 ⟨rfl, h3⟩; have y := y.trans (h3.mono y.size)))
          go_wp2_with fail
          go_meet
          exact ⟨rfl, y⟩
        case rest =>
          obtain ⟨rfl, HY2⟩ := hcut
          clear a1 a2 a3 a4 a5 a6 tx t1 t2 t3 t4 t5 tV tX tO z1 z2 z3 z4 z5 z6 cV cX c0 c1 c2 c3
          obtain ⟨la, lc, hlv, _⟩ := HXR.out.1
          have hzl : zs.length = bx.ls.length := by rw [← HZS.out, List.length_map]
          obtain ⟨ML, hML⟩ : ∃ ML, zs.length = ML := ⟨_, rfl⟩
          rw [hlv, hML] at hcl
          have hX2 := HXR.out
          rw [hlv] at hX2
          have HXR2 := Lib.hid hX2
          have HMZ := Lib.hid hML
          have hmz : ML = bx.ls.length := hML ▸ hzl
          have hm60 : ML ≤ 60 := by omega
          have HMB := Lib.hid hmz
          clear hlv hzl hML hX2 hmz HXR
          obtain ⟨c0, c1, _, _, _, c5⟩ := hcl _ HY2.out
          go_wp2_with fail
          go_loopg [4, 6] ML (fun g s4 s6 wr => ∃ j : Nat, j + g = ML ∧ s6 = .int .i64 (j : Int) ∧ s4 = .string ⟨(q6 ++ (bx.ls.take j).flatMap letT).toArray⟩ ∧ Hid (Below W1.heap.size W1 wr))
          case atStart => exact ⟨0, by omega, rfl, by rw [List.take_zero, List.flatMap_nil, List.append_nil], HY2⟩
          case round =>
            clear c0 c1 c5
            obtain ⟨j, hj, rfl, rfl, HYJ⟩ := hrel
            clear HY2
            obtain ⟨c0, c1, _, _, _, c5⟩ := hcl _ HYJ.out
            by_cases hltj : j < ML
            · obtain ⟨g2, rfl⟩ : ∃ g', gk = g' + 1 := ⟨gk - 1, by omega⟩
              obtain ⟨⟨⟨uid, fl, dy, tx⟩, zv⟩, hz⟩ : ∃ z, zs[j]? = some z := ⟨zs[j]'(by rw [HMZ.out]; exact hltj), List.getElem?_eq_getElem _⟩
              have hyj : bx.ls[j]? = some ⟨uid, fl, dy, tx⟩ := by rw [← HZS.out, List.getElem?_map, hz]; rfl
              have hym := List.mem_of_getElem? hyj
              obtain ⟨lb, loff, lcap, hv2, hlb, u0, u1, u2, u3, hsr⟩ := xrow_let HXR2.out hz
              simp only at u0 u1 u2 u3 hsr
              obtain rfl : la = some ⟨lb, loff, none⟩ := by
                injection hv2 with e _ _
              have hb2 := HYJ.out
              have d0 := (hb2.cell (p := ⟨lb, _, none⟩) hlb).trans u0
              have d1 := (hb2.cell (p := ⟨lb, _, none⟩) hlb).trans u1
              have d2 := (hb2.cell (p := ⟨lb, _, none⟩) hlb).trans u2
              have d3 := (hb2.cell (p := ⟨lb, _, none⟩) hlb).trans u3
              have hsr2 := hsr.below hb2
              have hsr3 := hsr2
              obtain ⟨xa, xc, rfl, _⟩ := hsr3
              obtain ⟨e1, e2, e3, e4⟩ := HLF.out _ hym
              have hll7 := HLL.out _ hym
              simp only at e1 e2 e3 e4
              have hls := lets_step hyj
              have hlj := HLT.out j
              obtain ⟨Q, hQ⟩ : ∃ Q, q6 ++ (bx.ls.take j).flatMap letT = Q := ⟨_, rfl⟩
              have hQl : Q.length ≤ 14424300000000 := by rw [← hQ, List.length_append]; omega
              have HLS : Hid (q6 ++ (bx.ls.take (j + 1)).flatMap letT = Q ++ letT ⟨uid, fl, dy, tx⟩) := Lib.hid (by rw [hls, ← List.append_assoc, hQ])
              rw [hQ]
              have hq6 : letT ⟨uid, fl, dy, tx⟩ = [32] ++ Lib.itoa uid ++ printFl fl ++ Lib.itoa dy ++ [58] ++ Lib.itoa (tx.length : Int) ++ tx := rfl
              have cU := fun W hW => hitoa_any uid W e2.1 e2.2 hW
              have cD := fun W hW => hitoa_any dy W e3.1 e3.2 hW
              have cT := fun W hW => hitoa_any (tx.length : Int) W (by omega) (by omega) hW
              have cP := fun W hW => printFl_any (.slice xa fl.length xc) fl W hW (setF_short e1)
              obtain ⟨U, hU⟩ : ∃ V, Lib.itoa uid = V := ⟨_, rfl⟩
              obtain ⟨D, hD⟩ : ∃ V, Lib.itoa dy = V := ⟨_, rfl⟩
              obtain ⟨T, hT⟩ : ∃ V, Lib.itoa (tx.length : Int) = V := ⟨_, rfl⟩
              obtain ⟨P, hP⟩ : ∃ V, printFl fl = V := ⟨_, rfl⟩
              obtain ⟨r6, hR6⟩ : ∃ q, letT ⟨uid, fl, dy, tx⟩ = q := ⟨_, rfl⟩
              rw [hU] at cU hq6
              rw [hD] at cD hq6
              rw [hT] at cT hq6
              rw [hP] at cP hq6
              rw [hR6] at hq6 hll7 HLS
              obtain ⟨r1, hr1⟩ : ∃ q, q = [32] ++ U := ⟨_, rfl⟩
              obtain ⟨r2, hr2⟩ : ∃ q, q = r1 ++ P := ⟨_, rfl⟩
              obtain ⟨r3, hr3⟩ : ∃ q, q = r2 ++ D := ⟨_, rfl⟩
              obtain ⟨r4, hr4⟩ : ∃ q, q = r3 ++ [58] := ⟨_, rfl⟩
              obtain ⟨r5, hr5⟩ : ∃ q, q = r4 ++ T := ⟨_, rfl⟩
              obtain ⟨r7, hr7⟩ : ∃ q, q = Q ++ r6 := ⟨_, rfl⟩
              rw [← hr1, ← hr2, ← hr3, ← hr4, ← hr5] at hq6
              have a1 : (⟨#[32]⟩ : ByteArray) ++ ⟨U.toArray⟩ = ⟨r1.toArray⟩ := cat_eq hr1
              have a2 := cat_eq hr2
              have a3 := cat_eq hr3
              have a4 : (⟨r3.toArray⟩ : ByteArray) ++ ⟨#[58]⟩ = ⟨r4.toArray⟩ := cat_eq hr4
              have a5 := cat_eq hr5
              have a6 := cat_eq hq6
              have a7 := cat_eq hr7
              have l1 : r1.length = 1 + U.length := by rw [hr1, List.length_append]; rfl
              have l2 : r2.length = r1.length + P.length := by rw [hr2, List.length_append]
              have l3 : r3.length = r2.length + D.length := by rw [hr3, List.length_append]
              have l4 : r4.length = r3.length + 1 := by rw [hr4, List.length_append]; rfl
              have l5 : r5.length = r4.length + T.length := by rw [hr5, List.length_append]
              have l6 : r6.length = r5.length + tx.length := by rw [hq6, List.length_append]
              have tx0 := text_size tx
              have t1 := text_size r1
              have t2 := text_size r2
              have t3 := text_size r3
              have t4 := text_size r4
              have t5 := text_size r5
              have t6 := text_size r6
              have tU := text_size U
              have tD := text_size D
              have tT := text_size T
              have tP := text_size P
              have tQ := text_size Q
              have z1 : ¬(9223372036854775807 < 1 + U.length) := by omega
              have z2 : ¬(9223372036854775807 < r1.length + P.length) := by omega
              have z3 : ¬(9223372036854775807 < r2.length + D.length) := by omega
              have z4 : ¬(9223372036854775807 < r3.length + 1) := by omega
              have z5 : ¬(9223372036854775807 < r4.length + T.length) := by omega
              have z6 : ¬(9223372036854775807 < r5.length + tx.length) := by omega
              have z7 : ¬(9223372036854775807 < Q.length + r6.length) := by omega
              have hjz : (j : Int) < (ML : Int) := by omega
              obtain ⟨wl, hwl⟩ : ∃ wl, wr.alloc (.cells #[.int .i64 uid, .slice xa fl.length xc, .int .i64 dy, .string ⟨tx.toArray⟩] 76) = wl := ⟨_, rfl⟩
              have yl : Below wr.heap.size wr wl := hwl ▸ (Below.refl _ _).alloc (Nat.le_refl _) _
              have xl : wl.heap[wr.heap.size]? = some (.cells #[.int .i64 uid, .slice xa fl.length xc, .int .i64 dy, .string ⟨tx.toArray⟩] 76 (0, 0)) := hwl ▸ World.heap_alloc_new wr _
              have hLl : wr.heap.size < wl.heap.size := by rw [← hwl, alloc_size]; exact Nat.lt_succ_self _
              obtain ⟨LB, hLB⟩ : ∃ LB, wr.heap.size = LB := ⟨_, rfl⟩
              have HYL : Hid (Below W1.heap.size W1 wl) := Lib.hid (hb2.trans (yl.mono hb2.size))
              have hlc : ∀ W, Below wl.heap.size wl W → (W.cell? ⟨LB, 0, none⟩ = some (.int .i64 uid) ∧ W.cell? ⟨LB, 1, none⟩ = some (.slice xa fl.length xc) ∧ W.cell? ⟨LB, 2, none⟩ = some (.int .i64 dy) ∧ W.cell? ⟨LB, 3, none⟩ = some (.string ⟨tx.toArray⟩)) ∧ TabP W ∧ SRow W (.slice xa fl.length xc) fl := fun W h => by
                rw [hLB] at xl hLl
                refine ⟨four_cells ((h.block LB hLl).trans xl), HTAB.out W (HYL.out.trans (h.mono HYL.out.size)), (hsr2.below yl).below h⟩
              have HR7 := Lib.hid hr7
              have HLB := Lib.hid hLB
              clear hr1 hr2 hr3 hr4 hr5 hq6 hr7 hU hD hT hP hR6 hQ hls hlj hQl hll7 e1 e2 e3 hz hyj hym hv2 u0 u1 u2 u3 hsr hsr2 hb2 l1 l2 l3 l4 l5 l6 yl xl hLl hLB
              go_upto_region 11 with fail
              rw [HLB.out]
              clear hwl d0 d1 d2 d3 c0 c1 c5
              have y : Below wl.heap.size wl wl.drew := (Below.refl _ _).drew
              go_region_held3 (fun W => W.cell? ⟨LB, 0, none⟩ = some (.int .i64 uid) ∧ W.cell? ⟨LB, 1, none⟩ = some (.slice xa fl.length xc) ∧ W.cell? ⟨LB, 2, none⟩ = some (.int .i64 dy) ∧ W.cell? ⟨LB, 3, none⟩ = some (.string ⟨tx.toArray⟩))
                (first | exact (hlc _ y).1)
                (first
                  | (go_at_call 42; with_reducible refine (cU _ (hlc _ y).2.1).mono ?_; rintro e w2 ⟨rfl, h2⟩; have y := y.trans (h2.mono y.size))
                  | (go_at_call 44; with_reducible refine (cP _ (hlc _ y).2.2).mono ?_; rintro e w3 ⟨rfl, h3⟩; have y := y.trans (h3.mono y.size))
                  | (go_at_call 42; with_reducible refine (cD _ (hlc _ y).2.1).mono ?_; rintro e w4 ⟨rfl, h4⟩; have y := y.trans (h4.mono y.size))
                  | (go_at_call 42; with_reducible refine (cT _ (hlc _ y).2.1).mono ?_; rintro e w5 ⟨rfl, h5⟩; have y := y.trans (h5.mono y.size)))
              have HY3 : Hid (Below W1.heap.size W1 _) := Lib.hid (HYL.out.trans (y.mono HYL.out.size))
              clear a1 a2 a3 a4 a5 a6 a7 tx0 t1 t2 t3 t4 t5 t6 tU tD tT tP tQ z1 z2 z3 z4 z5 z6 z7 cU cD cT cP hlc
              go_wp2_with fail
              go_roundg g2
              case measure => omega
              case rel => exact ⟨j + 1, by omega, by go_num, by rw [HLS.out, HR7.out], HY3⟩
            · obtain rfl : j = ML := by omega
              have hfin : q6 ++ (bx.ls.take j).flatMap letT = outT p (k + 1) := by
                rw [HST.out, HQ6.out, HMB.out, List.take_length]
                unfold boxT
                rw [HQ5.out, List.append_assoc]
              rw [hfin]
              clear hfin
              go_wp2_with fail
              go_roundg g'
              case measure => omega
              case rel => exact ⟨k + 1, by omega, by go_num, rfl, HYJ⟩
      · obtain rfl : k = M := by omega
        have hal : outT p k = allT p := by unfold allT; rw [HM.out]
        rw [hal]
        go_wp2_with fail
        go_ret
        exact ⟨rfl, HB2.out.trans (HYR.out.mono HB2.out.size)⟩
end Go.Proofs.YtdlfbhbgemoelaaGreatDoor
