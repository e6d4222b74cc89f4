/- The walk over the statement BoxPlays. Condition: flags.system and errors.errorType lie as the program's text lays them. The statement BoxPlaysCardSaid: letterboxlaw.BoxPlays returns true of any two ints, any row of letters and any row of posts. Conditions: none beyond the card's own: what the card ties, which the proof does not lean on, and flags.system and errors.errorType as they are laid, which it reads. -/
import Derived.Test.YteclajckkjocnaaGreatDoorRows
import Derived.Test.YteclajckkjocnaaGreatDoorCards
import Derived.Test.YteclajckkjocnaaGreatDoorTie
import Derived.Deep.Slices
import Derived.Deep.Fields
import Derived.Lib.LaidIn
import Derived.Lib.LaidTab
import Derived.LaidHandle
import Derived.Stop.LaidErr
import Derived.Lib.LaidU8T
import Derived.Lib.ValidU
import Derived.Deep.DeepHandedRow
import Derived.Deep.DeepWitnessRowRef
import Derived.ProofKit
import Derived.SizedLaws
import Derived.ShutString
import Derived.SliceStrings
import Derived.Carry
import Derived.SevenTiedAt
import Derived.Test.YteclajckkjocnaaGreatDoorPkPlayL
import Derived.Test.YteclajckkjocnaaGreatDoorPkBoxR
namespace Go.Proofs.YteclajckkjocnaaGreatDoor
open Go.RowKit Go.Shelf Go.Sort
set_option linter.unusedSimpArgs false
set_option linter.unusedSimpArgs false
/-- a row of posts that is handed over -/
def PRowL (w : World) (v : Value) (l : List (Pst × Bool)) : Prop := ∃ ao cap, v = .slice ao l.length cap ∧ l.length ≤ cap ∧ (cap ≤ 9223372036854775807 ∧ (ao = none → cap = 0)) ∧ ∀ (j : Nat) (x : Pst × Bool), l[j]? = some x → ∃ b off fv, ao = some ⟨b, off, none⟩ ∧ b < w.heap.size ∧ SRow w fv x.1.flags ∧ SafeV w.heap.size w fv ∧
  w.cell? ⟨b, off + j * 6, none⟩ = some (.int .i64 x.1.what) ∧ w.cell? ⟨b, off + j * 6 + 1, none⟩ = some (.int .i64 x.1.uid) ∧ w.cell? ⟨b, off + j * 6 + 2, none⟩ = some (.int .i64 x.1.n) ∧ w.cell? ⟨b, off + j * 6 + 3, none⟩ = some fv ∧ w.cell? ⟨b, off + j * 6 + 4, none⟩ = some (.string ⟨x.1.text.toArray⟩) ∧ w.cell? ⟨b, off + j * 6 + 5, none⟩ = some (.bool x.2)
theorem play_start {N : Nat} {w : World} {B C V U : Nat} {b : BoxP} {us : Us} {lv uv fv lu : Value} {zs : List (Let × Value)} (eb : w.heap[B]? = some (.cells #[.int .i64 b.valid, .int .i64 b.next, lv] 28 (0, 0))) (ec : w.heap[C]? = some (.cells #[.int .i64 b.valid, .int .i64 b.next, lv] 26 (0, 0)))
    (hz : zs.map (·.1) = b.ls) (hx : XRow N w lv zs) (hlv : ∀ a n c, lv = .slice (some a) n c → 0 < c → a.block < N) (hv : ViewS N w V uv fv us) (hu : RVS N w U lu us) : PlayS N w B C V U b b us us := by
  have off : ∀ {B : Nat} {T : TypeId}, w.heap[B]? = some (.cells #[.int .i64 b.valid, .int .i64 b.next, lv] T (0, 0)) → Off w B lu.ownBlock := fun h lv' h' a n c hj hc e => by
    obtain rfl := lvOf_eq h' ⟨_, _, _, _, h⟩
    have h1 := hlv a n c hj hc
    have h2 := rvs_low hu _ e
    omega
  exact ⟨⟨lv, zs, eb, hz, hx⟩, ⟨lv, zs, ec, hz, hx⟩, ⟨uv, fv, hv⟩, lu, hu, off eb, off ec⟩
theorem short_of {l : List Let} (h : lettersF l = true) : (∀ x ∈ l, Short x.flags) ∧ (∀ x ∈ l, x.text.length ≤ 1000000) ∧ l.length ≤ 70 ∧ ∀ x ∈ l, x.flags.length ≤ 1000000 := by
  unfold lettersF at h
  simp only [Bool.and_eq_true, decide_eq_true_eq, List.all_eq_true] at h
  have hx : ∀ x ∈ l, textsF x.flags = true ∧ x.text.length ≤ 300 := fun x hx => by
    have := h.2 x hx
    unfold letF at this
    simp only [Bool.and_eq_true, decide_eq_true_eq] at this
    exact this
  refine ⟨fun x hx' => (texts_short (hx x hx').1).1, fun x hx' => by have := (hx x hx').2; omega, h.1, fun x hx' => ?_⟩
  have := (hx x hx').1
  unfold textsF at this
  simp only [Bool.and_eq_true, decide_eq_true_eq] at this
  omega
theorem texts_len {l : List (List UInt8)} (h : textsF l = true) : l.length ≤ 100 := by
  unfold textsF at h
  simp only [Bool.and_eq_true, decide_eq_true_eq] at h
  omega
set_option maxRecDepth 100000 in
set_option maxHeartbeats 40000000 in
theorem plays_any (vd nx : Int) (lv pv : Value) (zs : List (Let × Value)) (l : List (Pst × Bool)) (w : World) (hx : XRow w.heap.size w lv zs) (hlv : ∀ a n c, lv = .slice (some a) n c → 0 < c → a.block < w.heap.size)
    (ht : ∀ z ∈ zs, (∀ t ∈ z.1.flags, t.length ≤ 9223372036854775807) ∧ z.1.text.length ≤ 9223372036854775807) (hv : PRowL w pv l) (hlt : ∀ x ∈ l, (∀ t ∈ x.1.flags, t.length ≤ 9223372036854775807) ∧ x.1.text.length ≤ 9223372036854775807)
    (hi : ∀ x ∈ l, -9223372036854775808 ≤ x.1.uid ∧ x.1.uid ≤ 9223372036854775807 ∧ -9223372036854775808 ≤ x.1.n ∧ x.1.n ≤ 9223372036854775807) (hG : FlagG w) (hE : ErrTy w) :
    Calls Tryz.prog 3 #[.int .i64 vd, .int .i64 nx, lv, pv] w fun e w' => e = .returned (.bool true) ∧ Below w.heap.size w w' := by
  have cL := letters_any lv zs (zs.map (·.1)) w hx.1 rfl (fun x hx' => by
    obtain ⟨z, hz, rfl⟩ := List.mem_map.1 hx'
    exact ht z hz)
  obtain ⟨b, hb⟩ : ∃ b : BoxP, (⟨vd, nx, zs.map (·.1)⟩ : BoxP) = b := ⟨_, rfl⟩
  have hbv : b.valid = vd := by rw [← hb]
  have hbn : b.next = nx := by rw [← hb]
  have hbl : zs.map (·.1) = b.ls := by rw [← hb]
  subst hbv hbn
  rw [hbl] at cL
  clear hb ht
  obtain ⟨la, lc, hlvv, _⟩ := hx.1
  subst hlvv
  obtain ⟨ao, cap, rfl, hcap, ⟨hcm, hnone⟩, hcell⟩ := hv
  cases hlF : lettersF b.ls with
  | false =>
    rw [hlF] at cL
    clear hcell hx
    go_enter Tryz.func3, Tryz.ntmps3
    go_wp2_with (go_at_call 4; (with_reducible refine cL.mono ?_); rintro e w2 ⟨rfl, h⟩)
    go_ret
    exact ⟨rfl, h⟩
  | true =>
    rw [hlF] at cL
    obtain ⟨hs1, hs2, hs3, hs4⟩ := short_of hlF
    by_cases h60 : (60 : Int) < (l.length : Int)
    · clear hcell hx hs1 hs2 hs3 hs4 hlF
      go_enter Tryz.func3, Tryz.ntmps3
      go_wp2_with (go_at_call 4; (with_reducible refine cL.mono ?_); rintro e w2 ⟨rfl, h⟩)
      go_ret
      exact ⟨rfl, h⟩
    · have hC := Lib.hid hcell; have HI := Lib.hid hi; have HLT := Lib.hid hlt; have HX := Lib.hid hx; have HG := Lib.hid hG; have HE := Lib.hid hE; have HBL := Lib.hid hbl; have HLV := Lib.hid hlv
      have HS1 := Lib.hid hs1; have HS2 := Lib.hid hs2; have HS3 := Lib.hid hs3; have HS4 := Lib.hid hs4
      clear hcell hi hlt hx hG hE hbl hlv hs1 hs2 hs3 hs4 hlF
      go_enter Tryz.func3, Tryz.ntmps3
      go_upto_region 5 with (go_at_call 4; (with_reducible refine cL.mono ?_); rintro e w2 ⟨rfl, h2⟩)
      clear cL
      -- the two boxes
      obtain ⟨C, hCe⟩ : ∃ C, w2.heap.size = C := ⟨_, rfl⟩
      have ec0 := World.heap_alloc_new w2 (.cells #[.int .i64 b.valid, .int .i64 b.next, .slice la zs.length lc] 26)
      have y3 : Below w.heap.size w (w2.alloc (.cells #[.int .i64 b.valid, .int .i64 b.next, .slice la zs.length lc] 26)) := h2.alloc h2.size _
      have s3 := alloc_size w2 (.cells #[.int .i64 b.valid, .int .i64 b.next, .slice la zs.length lc] 26)
      rw [hCe]
      obtain ⟨w3, hw3⟩ : ∃ w3, w2.alloc (.cells #[.int .i64 b.valid, .int .i64 b.next, .slice la zs.length lc] 26) = w3 := ⟨_, rfl⟩
      rw [hw3] at ec0 y3 s3 ⊢
      rw [hCe] at ec0 s3
      have eb0 := World.heap_alloc_new w3 (.cells #[.int .i64 b.valid, .int .i64 b.next, .slice la zs.length lc] 28)
      have y4 : Below w.heap.size w (w3.alloc (.cells #[.int .i64 b.valid, .int .i64 b.next, .slice la zs.length lc] 28)) := y3.alloc y3.size _
      have ec1 := alloc_at (o := .cells #[.int .i64 b.valid, .int .i64 b.next, .slice la zs.length lc] 28) ec0
      obtain ⟨w4, hw4⟩ : ∃ w4, w3.alloc (.cells #[.int .i64 b.valid, .int .i64 b.next, .slice la zs.length lc] 28) = w4 := ⟨_, rfl⟩
      rw [hw4] at eb0 y4 ec1 ⊢
      rw [s3] at eb0
      have hNC : w.heap.size ≤ C := hCe ▸ h2.size
      obtain ⟨B, hBe⟩ : ∃ B, C + 1 = B := ⟨_, rfl⟩
      have hNB : w.heap.size ≤ B := by omega
      rw [hBe] at eb0 ⊢
      clear hBe hw4 hw3 hCe s3 ec0 y3 h2
      have HEB := Lib.hid eb0; have HEC := Lib.hid ec1
      have hx4 := HX.out.below y4
      have HX4 := Lib.hid hx4
      have kk : ∀ W, Below w4.heap.size w4 W → W.cell? ⟨B, 0, none⟩ = some (.int .i64 b.valid) ∧ W.cell? ⟨B, 1, none⟩ = some (.int .i64 b.next) ∧ W.cell? ⟨B, 2, none⟩ = some (.slice la zs.length lc) ∧ W.cell? ⟨C, 0, none⟩ = some (.int .i64 b.valid) ∧ W.cell? ⟨C, 1, none⟩ = some (.int .i64 b.next) ∧ W.cell? ⟨C, 2, none⟩ = some (.slice la zs.length lc) := fun W hW => by
        obtain ⟨p0, p1, p2⟩ := three_cells (below_same hW HEB.out)
        obtain ⟨r0, r1, r2⟩ := three_cells (below_same hW HEC.out)
        exact ⟨p0, p1, p2, r0, r1, r2⟩
      have KK := Lib.hid kk
      have cB := fun (W : World) (hW : Below w4.heap.size w4 W) => bright_any w.heap.size b (.slice la zs.length lc) zs W (HX4.out.below hW) HBL.out HS1.out HS2.out (by have := HS3.out; omega) (HG.out.below (y4.trans (hW.mono y4.size)))
      have cC := fun (W : World) (hW : Below w4.heap.size w4 W) => rright_any w.heap.size b (.slice la zs.length lc) zs W (HX4.out.below hW) HBL.out HS1.out HS2.out (by have := HS3.out; omega)
      have yd : Below w4.heap.size w4 w4.drew := (Below.refl _ w4).drew
      clear hx4 eb0 ec1 kk
      cases hrb : rightB b with
      | false =>
        simp only [hrb] at cB cC
        clear hrb
        go_region_held3 (fun W => W.cell? ⟨B, 0, none⟩ = some (.int .i64 b.valid) ∧ W.cell? ⟨B, 1, none⟩ = some (.int .i64 b.next) ∧ W.cell? ⟨B, 2, none⟩ = some (.slice la zs.length lc) ∧ W.cell? ⟨C, 0, none⟩ = some (.int .i64 b.valid) ∧ W.cell? ⟨C, 1, none⟩ = some (.int .i64 b.next) ∧ W.cell? ⟨C, 2, none⟩ = some (.slice la zs.length lc))
          (first | exact KK.out _ yd | exact KK.out _ y5 | exact KK.out _ y6)
          (first
            | (go_at_call 5; (with_reducible refine (cB _ yd).mono ?_); rintro e w5 ⟨rfl, h5⟩; have y5 := yd.trans (h5.mono yd.size))
            | (go_at_call 6; (with_reducible refine (cC _ y5).mono ?_); rintro e w6 ⟨rfl, h6⟩; have y6 := y5.trans (h6.mono y5.size)))
        obtain ⟨_, _, _, q0, q1, q2⟩ := KK.out _ y6
        go_wp2_with (go_at_call 6; (with_reducible refine (cC _ y6).mono ?_); rintro e w7 ⟨rfl, h7⟩; have y7 := y6.trans (h7.mono y6.size))
        go_ret
        exact ⟨rfl, y4.trans (y7.mono y4.size)⟩
      | true =>
        simp only [hrb] at cB cC
        have HR := Lib.hid hrb
        clear hrb
        go_region_held3 (fun W => W.cell? ⟨B, 0, none⟩ = some (.int .i64 b.valid) ∧ W.cell? ⟨B, 1, none⟩ = some (.int .i64 b.next) ∧ W.cell? ⟨B, 2, none⟩ = some (.slice la zs.length lc) ∧ W.cell? ⟨C, 0, none⟩ = some (.int .i64 b.valid) ∧ W.cell? ⟨C, 1, none⟩ = some (.int .i64 b.next) ∧ W.cell? ⟨C, 2, none⟩ = some (.slice la zs.length lc))
          (first | exact KK.out _ yd | exact KK.out _ y5 | exact KK.out _ y6)
          (first
            | (go_at_call 5; (with_reducible refine (cB _ yd).mono ?_); rintro e w5 ⟨rfl, h5⟩; have y5 := yd.trans (h5.mono yd.size))
            | (go_at_call 6; (with_reducible refine (cC _ y5).mono ?_); rintro e w6 ⟨rfl, h6⟩; have y6 := y5.trans (h6.mono y5.size)))
        obtain ⟨_, _, _, q0, q1, q2⟩ := KK.out _ y6
        go_upto_region 9 with (go_at_call 6; (with_reducible refine (cC _ y6).mono ?_); rintro e w7 ⟨rfl, h7⟩; have y7 := y6.trans (h7.mono y6.size))
        clear q0 q1 q2 cB cC
        have cO := fun (W : World) (hW : Below w4.heap.size w4 W) => open_any w.heap.size b (.slice la zs.length lc) zs W (y4.trans (hW.mono y4.size)).size HBL.out (HX4.out.below hW) HS4.out (by have := HS3.out; omega)
        have cP := fun (W : World) (hW : Below w4.heap.size w4 W) => ropen_any w.heap.size b (.slice la zs.length lc) zs W (y4.trans (hW.mono y4.size)).size HBL.out (HX4.out.below hW) (by have := HS3.out; omega)
        have y8 := y7.trans ((Below.refl _ w7).drew.mono y7.size)
        go_region_held3 (fun W => W.cell? ⟨B, 0, none⟩ = some (.int .i64 b.valid) ∧ W.cell? ⟨B, 1, none⟩ = some (.int .i64 b.next) ∧ W.cell? ⟨B, 2, none⟩ = some (.slice la zs.length lc) ∧ W.cell? ⟨C, 0, none⟩ = some (.int .i64 b.valid) ∧ W.cell? ⟨C, 1, none⟩ = some (.int .i64 b.next) ∧ W.cell? ⟨C, 2, none⟩ = some (.slice la zs.length lc))
          (first | exact KK.out _ y8 | exact KK.out _ y9 | exact KK.out _ y10)
          (first
            | (go_at_call 7; (with_reducible refine (cO _ y8).mono ?_); rintro e w9 ⟨V, uv, gv, rfl, hV9, hv9, h9⟩; have y9 := y8.trans (h9.mono y8.size))
            | (go_at_call 8; (with_reducible refine (cP _ y9).mono ?_); rintro e w10 ⟨U, lu, rfl, hU10, _, hu10, h10⟩; have y10 := y9.trans (h10.mono y9.size)))
        have hNV : w.heap.size ≤ V := Nat.le_trans (y4.trans (y8.mono y4.size)).size hV9
        have hNU : w.heap.size ≤ U := Nat.le_trans (y4.trans (y9.mono y4.size)).size hU10
        have hv10 := hv9.kept (kept_below h10) (spares_none _ w9) id (fun _ _ => id) (fun _ _ => id)
        have hS0 := play_start (below_same y10 HEB.out) (below_same y10 HEC.out) HBL.out (HX4.out.below y10) HLV.out hv10 hu10
        have HS0 := Lib.hid hS0
        have HI0 := Lib.hid (play_open HR.out)
        have HY0 := Lib.hid (y4.trans (y10.mono y4.size))
        clear hS0 hv10 hu10 hv9 cO cP yd y5 y6 y7 y8 y9 y10 h5 h6 h7 h9 h10 hV9 hU10 y4
        go_wp2_with fail
        go_loopg [13] l.length (fun g s13 wr => ∃ (k : Nat) (bb : BoxP) (us : Us), k + g = l.length ∧ s13 = .int .i64 (k : Int) ∧ Hid (PlayS w.heap.size wr B C V U bb bb us us) ∧ Hid (PlayI bb us k) ∧ Hid (Below w.heap.size w wr))
        case atStart => exact ⟨0, b, _, by omega, rfl, HS0, HI0, HY0⟩
        case round =>
          obtain ⟨k, bb, us, hk, rfl, hS, hI, hY⟩ := hrel
          clear HS0 HI0 HY0
          by_cases hlt' : k < l.length
          · obtain ⟨g', rfl⟩ : ∃ g', gk = g' + 1 := ⟨gk - 1, by omega⟩
            obtain ⟨x, hxk⟩ : ∃ x, l[k]? = some x := ⟨l[k], List.getElem?_eq_getElem hlt'⟩
            obtain ⟨pa, off, fv, rfl, hpa, hSf, hsf, c0, c1, c2, c3, c4, c5⟩ := hC.out k x hxk
            have hxm := List.mem_of_getElem? hxk
            obtain ⟨hi0, hi1, hi2, hi3⟩ := HI.out x hxm
            obtain ⟨hl1, hl2⟩ := HLT.out x hxm
            have hkz : (k : Int) < (l.length : Int) := by omega
            obtain ⟨fa, fc, hfv⟩ : ∃ a c, fv = .slice a x.1.flags.length c := by
              obtain ⟨ao, cap, h, _⟩ := hSf
              exact ⟨_, _, h⟩
            subst hfv
            have hb := hY.out
            have e0 := (hb.cell (p := ⟨pa, off + k * 6, none⟩) hpa).trans c0
            have e1 := (hb.cell (p := ⟨pa, off + k * 6 + 1, none⟩) hpa).trans c1
            have e2 := (hb.cell (p := ⟨pa, off + k * 6 + 2, none⟩) hpa).trans c2
            have e3 := (hb.cell (p := ⟨pa, off + k * 6 + 3, none⟩) hpa).trans c3
            have e4 := (hb.cell (p := ⟨pa, off + k * 6 + 4, none⟩) hpa).trans c4
            have e5 := (hb.cell (p := ⟨pa, off + k * 6 + 5, none⟩) hpa).trans c5
            obtain ⟨⟨wh, ui, nn, fl, tx⟩, lg⟩ := x
            dsimp only at *
            have x0 := World.heap_alloc_new wr (.cells #[.int .i64 wh, .int .i64 ui, .int .i64 nn, .slice fa fl.length fc, .string ⟨tx.toArray⟩, .bool lg] 37)
            have yb := (Below.refl wr.heap.size wr).alloc (Nat.le_refl _) (.cells #[.int .i64 wh, .int .i64 ui, .int .i64 nn, .slice fa fl.length fc, .string ⟨tx.toArray⟩, .bool lg] 37)
            obtain ⟨X, hX⟩ : ∃ X, wr.heap.size = X := ⟨_, rfl⟩
            have hk60 : k ≤ 60 := by omega
            have cT := fun (W : World) (hW : Below w.heap.size w W) => ltexts_any (.slice fa fl.length fc) fl W (hSf.below hW) hl1
            have htx := text_size tx
            have HSF := Lib.hid hSf; have HSG := Lib.hid hsf
            clear hxk hSf hsf c0 c1 c2 c3 c4 c5 hxm hl1 hb
            go_upto_region 16 with fail
            clear e0 e1 e2 e3 e4 e5
            obtain ⟨w1, hw1⟩ : ∃ w1, wr.alloc (.cells #[.int .i64 wh, .int .i64 ui, .int .i64 nn, .slice fa fl.length fc, .string ⟨tx.toArray⟩, .bool lg] 37) = w1 := ⟨_, rfl⟩
            rw [hw1] at x0 yb ⊢
            rw [hX] at x0
            have hY1 := hY.out.trans (yb.mono hY.out.size)
            have hS1 := hS.out.below yb
            have HS1' := Lib.hid hS1; have HX0 := Lib.hid x0
            obtain ⟨k0, k1, k2, k3, k4, k5⟩ := six_at x0
            clear hw1 hS1 hX x0
            cases hT : textsF fl with
            | false =>
              have cT1 := cT w1 hY1
              rw [hT] at cT1
              clear hT cT
              go_wp2_with (go_at_call 9; (with_reducible refine cT1.mono ?_); rintro e wt ⟨rfl, ht⟩)
              go_roundg g'
              case measure => omega
              case rel => exact ⟨k + 1, bb, us, by omega, by go_num, HS1'.out.below ht, hI.out.more, hY1.trans (ht.mono hY1.size)⟩
            | true =>
              have cT1 := cT w1 hY1
              rw [hT] at cT1
              have hfl100 := texts_len hT
              have hshort := (texts_short hT).1
              clear hT cT
              by_cases h300 : (300 : Int) < (tx.length : Int)
              · go_wp2_with (go_at_call 9; (with_reducible refine cT1.mono ?_); rintro e wt ⟨rfl, ht⟩; obtain ⟨k0, k1, k2, k3, k4, k5⟩ := six_at (below_same ht HX0.out))
                go_roundg g'
                case measure => omega
                case rel => exact ⟨k + 1, bb, us, by omega, by go_num, HS1'.out.below ht, hI.out.more, hY1.trans (ht.mono hY1.size)⟩
              · have hE0 : ∀ W, Below w1.heap.size w1 W → PostE w B C V U k bb us ⟨wh, ui, nn, fl, tx⟩ (.slice fa fl.length fc) W := fun W hW =>
                  ⟨HS1'.out.below hW, hI.out, hk60, hNB, hNC, hNV, hNU, hY1.trans (hW.mono hY1.size), HSF.out, HSG.out, hshort, hfl100, by show tx.length ≤ 300; omega, HG.out, HE.out, hi0, hi1, hi2, hi3⟩
                have cQ := fun W hW => posts_any (x := ⟨wh, ui, nn, fl, tx⟩) lg (hE0 W hW)
                have hstep := play_step hI.out ⟨wh, ui, nn, fl, tx⟩ lg hfl100
                obtain ⟨R, hR⟩ : ∃ R, playB bb us ⟨wh, ui, nn, fl, tx⟩ lg = R := ⟨_, rfl⟩
                simp only [hR] at cQ
                rw [hR] at hstep
                obtain ⟨bb', us'⟩ := R
                dsimp only at cQ hstep
                have HST := Lib.hid hstep
                clear hE0 hR hstep
                go_upto_region 19 with (first
                  | (go_at_call 9; (with_reducible refine cT1.mono ?_); rintro e wt ⟨rfl, ht⟩; obtain ⟨k0, k1, k2, k3, k4, k5⟩ := six_at (below_same ht HX0.out); have cQ1 := cQ _ ht)
                  | (go_at_call 10; go_loud ((with_reducible refine cQ1.mono ?_); rintro e wp ⟨rfl, hSp, hyp, hpk⟩; have HSP := Lib.hid hSp; have HXP := Lib.hid (hpk _ _ _ (below_same ht HX0.out)); obtain ⟨lvb, zb, ebp, hzb, hxb⟩ := hSp.hb; obtain ⟨lvc, zc, ecp, hzc, hxc⟩ := hSp.hc; obtain ⟨ba, bc, hlvb, _⟩ := hxb.1; subst hlvb; obtain ⟨ca, cc, hlvc, _⟩ := hxc.1; subst hlvc; obtain ⟨p0, p1, p2⟩ := three_cells ebp; obtain ⟨r0, r1, r2⟩ := three_cells ecp; have cS := sameL_any _ _ _ _ _ _ _ hxb hxc (hzc.trans hzb.symm) (by have := congrArg List.length hzb; rw [List.length_map] at this; have := right_len HST.out.r; omega); have HECP := Lib.hid ecp; have HXC := Lib.hid hxc; have HZC := Lib.hid hzc; clear hxb hxc hzc hzb ebp ecp hSp hpk))
                  | (go_at_call 11; go_loud ((with_reducible refine cS.mono ?_); rintro e wq ⟨rfl, hq⟩)))
                --ROUND
                have hSq := HSP.out.below hq
                have hYq := hyp.trans (hq.mono hyp.size)
                obtain ⟨_, k1, _, _, _, _⟩ := six_at (below_same hq HXP.out)
                obtain ⟨r0, r1, r2⟩ := three_cells (below_same hq HECP.out)
                have hbl := right_len HST.out.r
                have cF := fun (W : World) (hW : Below wq.heap.size wq W) => find_any_box B bb' ui W (hSq.hb.below hW).at (rising_of HST.out.r) (by omega) hi0 hi1
                have hzl : zc.length = bb'.ls.length := by have := congrArg List.length HZC.out; rwa [List.length_map] at this
                have cG : ∀ W, Below wq.heap.size wq W → Calls Tryz.prog 13 #[.agg #[.int .i64 bb'.valid, .int .i64 bb'.next, .slice ca zc.length cc], .int .i64 ui] W fun e w' => e = .returned (.int .i64 (findI bb'.ls ui)) ∧ Below W.heap.size W w' := fun W hW => by
                  have := rfind_any w.heap.size bb'.valid bb'.next (.slice ca zc.length cc) zc ui W ((HXC.out.below hq).below hW) (by omega)
                  rwa [HZC.out] at this
                have KC := Lib.hid (show ∀ W, Below wq.heap.size wq W → W.cell? ⟨X, 1, none⟩ = some (.int .i64 ui) ∧ W.cell? ⟨C, 0, none⟩ = some (.int .i64 bb'.valid) ∧ W.cell? ⟨C, 1, none⟩ = some (.int .i64 bb'.next) ∧ W.cell? ⟨C, 2, none⟩ = some (.slice ca zc.length cc) from fun W hW => ⟨below_cell hW k1, below_cell hW r0, below_cell hW r1, below_cell hW r2⟩)
                have HSQ := Lib.hid hSq; have HYQ := Lib.hid hYq; have HZL := Lib.hid hzl; have HBL2 := Lib.hid hbl
                clear hSq hYq hzl hbl k0 k2 k3 k4 k5 p0 p1 p2 cS cQ cQ1 cT1 hyp hq ht
                cases hfd : findB bb'.ls ui with
                | none =>
                  have hfi : findI bb'.ls ui = -1 := by unfold findI; rw [hfd]
                  simp only [hfd, hfi, Option.isSome] at cF cG
                  clear hfd hfi
                  go_upto_region 22 with (first
                    | (go_at_call 12; go_loud ((with_reducible refine (cF _ (Below.refl _ _)).mono ?_); rintro e wf ⟨i, rfl, hi, hf⟩; obtain ⟨k1, r0, r1, r2⟩ := KC.out _ hf; have yf := hf))
                    | (go_at_call 13; go_loud ((with_reducible refine (cG _ yf).mono ?_); rintro e wg ⟨rfl, hg⟩; have yf := yf.trans (hg.mono yf.size); obtain ⟨k1, r0, r1, r2⟩ := KC.out _ yf)))
                  have hSg := HSQ.out.below yf
                  have hYg := HYQ.out.trans (yf.mono HYQ.out.size)
                  obtain ⟨uv2, gv2, hv2⟩ := hSg.hv
                  obtain ⟨lu2, hu2, _, _⟩ := hSg.hu
                  have hun := HST.out.n
                  have hul : us'.length ≤ 10000 := by omega
                  have cU := uids_any w.heap.size V uv2 gv2 us' _ hv2 (by omega)
                  obtain ⟨zu, eu, hou, hzu, _⟩ := hu2
                  have hzul : zu.length = us'.length := by have := congrArg List.length hzu; rwa [List.length_map, List.length_map] at this
                  rw [hzul] at hou
                  obtain ⟨la2, lc2, hlu2⟩ := owns_val hou
                  subst hlu2
                  have d0 := one_cell eu
                  have HSG2 := Lib.hid hSg; have HYG := Lib.hid hYg; have HOU := Lib.hid hou; have HZU := Lib.hid hzu; have HZUL := Lib.hid hzul; have HEU := Lib.hid eu; have HYF := Lib.hid yf
                  clear hSg hYg hou hzu hzul eu hv2 hun k1 r0 r1 r2 cF cG yf
                  go_upto_region 23 with (go_at_call 14; go_loud ((with_reducible refine cU.mono ?_); rintro e wu ⟨v', rfl, hov, hu9⟩; obtain ⟨ua, uc, rfl⟩ := owns_val hov; have d0 := below_cell hu9 d0))
                  have HOV := Lib.hid hov; have HU9 := Lib.hid hu9
                  clear hov hu9 cU
                  go_wp2_with fail
                  go_loopg [18] us'.length (fun g s18 wr => ∃ m : Nat, m + g = us'.length ∧ s18 = .int .i64 (m : Int) ∧ Hid (Below wu.heap.size wu wr))
                  case atStart => exact ⟨0, by omega, rfl, Lib.hid (Below.refl _ _)⟩
                  case round =>
                    obtain ⟨m, hm, rfl, hbi⟩ := hrel
                    have d0 := below_cell hbi.out d0
                    by_cases hltm : m < us'.length
                    · obtain ⟨u, hum⟩ : ∃ u, us'[m]? = some u := ⟨us'[m], List.getElem?_eq_getElem hltm⟩
                      obtain ⟨p1, q1, e1⟩ := own_some HOV.out (by omega)
                      obtain ⟨p2, q2, e2⟩ := own_some HOU.out (by omega)
                      obtain rfl : ua = some ⟨p1, 0, none⟩ := by injection e1
                      obtain rfl : la2 = some ⟨p2, 0, none⟩ := by injection e2
                      have g1 : wr.cell? ⟨p1, m, none⟩ = some (.int .i64 u.1) := by
                        rw [(hbi.out.cell (p := ⟨p1, m, none⟩) (HOV.out.lt p1 rfl).2), HOV.out.cellAt m (by omega), List.getElem?_map, List.getElem?_map, hum]; rfl
                      have hzm : ∃ z, zu[m]? = some z ∧ z.1 = mkL u := by
                        have := congrArg (fun l => l[m]?) HZU.out
                        simp only [List.getElem?_map, hum, Option.map_some] at this
                        obtain ⟨z, h1, h2⟩ := Option.map_eq_some_iff.1 this
                        exact ⟨z, h1, h2⟩
                      obtain ⟨z, hz1, hz2⟩ := hzm
                      have g2 : wr.cell? ⟨p2, m * 4, none⟩ = some (.int .i64 u.1) := by
                        have hlt2 := (HOU.out.lt p2 rfl).2
                        have h0 := cellsL_get zu m 0 (by omega)
                        have hlt3 : m * 4 < us'.length * 4 := by omega
                        rw [Nat.add_zero, hz1] at h0
                        rw [(HU9.out.trans (hbi.out.mono HU9.out.size)).cell (p := ⟨p2, m * 4, none⟩) hlt2, HOU.out.cellAt (m * 4) hlt3, h0]
                        show some (Value.int .i64 z.1.uid) = _
                        rw [hz2]; rfl
                      have hmz : (m : Int) < (us'.length : Int) := by omega
                      clear hum hz1 hz2 e1 e2
                      go_wp2_with fail
                      go_quiet (fail)
                      go_wp2_with fail
                      go_roundg (gk - 1)
                      case measure => omega
                      case rel => exact ⟨m + 1, by omega, by go_num, Lib.hid (hbi.out.trans ((below_drewN wr _).mono hbi.out.size))⟩
                    · have y9 := HU9.out.trans (hbi.out.mono HU9.out.size)
                      go_wp2_with fail
                      go_roundg g'
                      case measure => omega
                      case rel => exact ⟨k + 1, bb', us', by omega, by go_num, HSG2.out.below y9, HST.out, HYG.out.trans (y9.mono HYG.out.size)⟩
                | some j =>
                  have hfi : findI bb'.ls ui = (j : Int) := by unfold findI; rw [hfd]
                  simp only [hfd, hfi, Option.isSome] at cF cG
                  clear hfd hfi
                  go_upto_region 22 with (first
                    | (go_at_call 12; go_loud ((with_reducible refine (cF _ (Below.refl _ _)).mono ?_); rintro e wf ⟨i, rfl, hi, hf⟩; obtain rfl : i = j := hi.out j rfl; obtain ⟨k1, r0, r1, r2⟩ := KC.out _ hf; have yf := hf))
                    | (go_at_call 13; go_loud ((with_reducible refine (cG _ yf).mono ?_); rintro e wg ⟨rfl, hg⟩; have yf := yf.trans (hg.mono yf.size); obtain ⟨k1, r0, r1, r2⟩ := KC.out _ yf)))
                  have hSg := HSQ.out.below yf
                  have hYg := HYQ.out.trans (yf.mono HYQ.out.size)
                  obtain ⟨uv2, gv2, hv2⟩ := hSg.hv
                  obtain ⟨lu2, hu2, _, _⟩ := hSg.hu
                  have hun := HST.out.n
                  have hul : us'.length ≤ 10000 := by omega
                  have cU := uids_any w.heap.size V uv2 gv2 us' _ hv2 (by omega)
                  obtain ⟨zu, eu, hou, hzu, _⟩ := hu2
                  have hzul : zu.length = us'.length := by have := congrArg List.length hzu; rwa [List.length_map, List.length_map] at this
                  rw [hzul] at hou
                  obtain ⟨la2, lc2, hlu2⟩ := owns_val hou
                  subst hlu2
                  have d0 := one_cell eu
                  have HSG2 := Lib.hid hSg; have HYG := Lib.hid hYg; have HOU := Lib.hid hou; have HZU := Lib.hid hzu; have HZUL := Lib.hid hzul; have HEU := Lib.hid eu; have HYF := Lib.hid yf
                  clear hSg hYg hou hzu hzul eu hv2 hun k1 r0 r1 r2 cF cG yf
                  go_upto_region 23 with (go_at_call 14; go_loud ((with_reducible refine cU.mono ?_); rintro e wu ⟨v', rfl, hov, hu9⟩; obtain ⟨ua, uc, rfl⟩ := owns_val hov; have d0 := below_cell hu9 d0))
                  have HOV := Lib.hid hov; have HU9 := Lib.hid hu9
                  clear hov hu9 cU
                  go_wp2_with fail
                  go_loopg [18] us'.length (fun g s18 wr => ∃ m : Nat, m + g = us'.length ∧ s18 = .int .i64 (m : Int) ∧ Hid (Below wu.heap.size wu wr))
                  case atStart => exact ⟨0, by omega, rfl, Lib.hid (Below.refl _ _)⟩
                  case round =>
                    obtain ⟨m, hm, rfl, hbi⟩ := hrel
                    have d0 := below_cell hbi.out d0
                    by_cases hltm : m < us'.length
                    · obtain ⟨u, hum⟩ : ∃ u, us'[m]? = some u := ⟨us'[m], List.getElem?_eq_getElem hltm⟩
                      obtain ⟨p1, q1, e1⟩ := own_some HOV.out (by omega)
                      obtain ⟨p2, q2, e2⟩ := own_some HOU.out (by omega)
                      obtain rfl : ua = some ⟨p1, 0, none⟩ := by injection e1
                      obtain rfl : la2 = some ⟨p2, 0, none⟩ := by injection e2
                      have g1 : wr.cell? ⟨p1, m, none⟩ = some (.int .i64 u.1) := by
                        rw [(hbi.out.cell (p := ⟨p1, m, none⟩) (HOV.out.lt p1 rfl).2), HOV.out.cellAt m (by omega), List.getElem?_map, List.getElem?_map, hum]; rfl
                      have hzm : ∃ z, zu[m]? = some z ∧ z.1 = mkL u := by
                        have := congrArg (fun l => l[m]?) HZU.out
                        simp only [List.getElem?_map, hum, Option.map_some] at this
                        obtain ⟨z, h1, h2⟩ := Option.map_eq_some_iff.1 this
                        exact ⟨z, h1, h2⟩
                      obtain ⟨z, hz1, hz2⟩ := hzm
                      have g2 : wr.cell? ⟨p2, m * 4, none⟩ = some (.int .i64 u.1) := by
                        have hlt2 := (HOU.out.lt p2 rfl).2
                        have h0 := cellsL_get zu m 0 (by omega)
                        have hlt3 : m * 4 < us'.length * 4 := by omega
                        rw [Nat.add_zero, hz1] at h0
                        rw [(HU9.out.trans (hbi.out.mono HU9.out.size)).cell (p := ⟨p2, m * 4, none⟩) hlt2, HOU.out.cellAt (m * 4) hlt3, h0]
                        show some (Value.int .i64 z.1.uid) = _
                        rw [hz2]; rfl
                      have hmz : (m : Int) < (us'.length : Int) := by omega
                      clear hum hz1 hz2 e1 e2
                      go_wp2_with fail
                      go_quiet (fail)
                      go_wp2_with fail
                      go_roundg (gk - 1)
                      case measure => omega
                      case rel => exact ⟨m + 1, by omega, by go_num, Lib.hid (hbi.out.trans ((below_drewN wr _).mono hbi.out.size))⟩
                    · have y9 := HU9.out.trans (hbi.out.mono HU9.out.size)
                      go_wp2_with fail
                      go_roundg g'
                      case measure => omega
                      case rel => exact ⟨k + 1, bb', us', by omega, by go_num, HSG2.out.below y9, HST.out, HYG.out.trans (y9.mono HYG.out.size)⟩
          · go_wp2_with fail
            go_ret
            exact ⟨rfl, hY.out⟩
end Go.Proofs.YteclajckkjocnaaGreatDoor
namespace Go.Proofs.YteclajckkjocnaaGreatDoor.boxPlays
open Go.Shelf
set_option linter.unusedSimpArgs false
open Go.ChangeShapes Go.WideShapes Go.ChangeAt Go.RowKit Go.Lib
open Go.ChangeMaps (open_string shut_string)
theorem laidOut : laidOutB Tryz.prog = true := by kernel_rfl
theorem cellsS : Tryz.prog.cellsOf 9 = 1 := by kernel_rfl
theorem own : ownKnob Tryz.prog.godebug = none := by kernel_rfl
theorem et : Tryz.prog.globalNamed "errors.errorType" = some 2 := by kernel_rfl
theorem rt : (Tryz.prog.cutTypes.find? (·.1 == "internal/reflectlite.rtype")).map (·.2) = some 194 := by kernel_rfl
theorem oneRow : ((List.range (335 - 100)).filter fun t => Tryz.prog.rowNamed t [101, 114, 114, 111, 114]) = [55] := by kernel_rfl
theorem size : Tryz.prog.types.size = 335 - 100 := by kernel_rfl
/-- what the condition gives a walk: the variable's one cell -/
theorem handle_of_laid {W : World} (h : handlesMet Tryz.prog [("errors.errorType", (Rows.laid_errors_errorType : DataW Unit))] W) : ErrTy W := by
  obtain ⟨name, u, ty, e1, e2, e3, e4, e5⟩ := h _ (List.mem_singleton.2 rfl)
  have en : name = [101, 114, 114, 111, 114] := (Option.some.inj e1).symm
  subst en
  obtain rfl := Option.some.inj (rt.symm.trans e2)
  have hm : ty ∈ (List.range (335 - 100)).filter fun t => Tryz.prog.rowNamed t [101, 114, 114, 111, 114] := List.mem_filter.2 ⟨List.mem_range.2 (by rw [← size]; exact e3), e4⟩
  rw [oneRow] at hm
  obtain rfl := List.mem_singleton.1 hm
  have hh : typeHandle Tryz.prog 55 = .pointer (some ⟨GB, 55, none⟩) := by kernel_rfl
  rw [hh] at e5
  simpa [ErrTy] using World.var?_cell et e5 0
/-- an array of texts that reads as a list of texts -/
theorem cells_of_strs {H : Type} {enc : TypeId × Value → H} {P : Program} {w : World} {base : Nat} {sp : Nat → Bool} {held : Bool} {fuel : Nat} {t e : TypeId} {n : Nat} {cs : List Value} {zs : List (List UInt8)} {p : List MemPlace}
    (ht : P.underlying t = some (.array n e)) (he : P.underlying e = some .string) (hce : P.cellsOf e = 1) (hct : P.cellsOf t = n)
    (h : DataW.trod enc P w base sp held fuel t cs = some (.agg (zs.map fun z => .lit (.string z)), p)) : cs = zs.map fun z => Value.string ⟨z.toArray⟩ := by
  cases fuel with
  | zero => simp [DataW.trod] at h
  | succ fuel =>
    simp only [DataW.trod, ht, hce, hct, Nat.mul_one] at h
    split at h
    · rename_i hl
      obtain ⟨xs, hm, hx⟩ := Option.map_eq_some_iff.1 h
      have hxs : xs.map (·.1) = zs.map fun z => (DataW.lit (.string z) : DataW H) := by
        have := congrArg Prod.fst hx
        simpa using this
      have hxl : xs.length = n := by simpa using mapM_length hm
      have hzl : zs.length = n := by
        have := congrArg List.length hxs
        simp at this
        omega
      apply List.ext_getElem?
      intro i
      by_cases hi : i < n
      · obtain ⟨b, hb, hf⟩ := mapM_at hm i i (by simp [hi])
        obtain ⟨z, hc, rfl, _⟩ := DataW.trod_string he hf
        have h1 : cs[i]? = some (.string z) := by
          have := congrArg (·[0]?) hc
          simpa [List.getElem?_take, List.getElem?_drop] using this
        have h2 : (xs.map (·.1))[i]? = some (DataW.lit (.string z.data.toList) : DataW H) := by simp [hb]
        rw [hxs] at h2
        simp only [List.getElem?_map, Option.map_eq_some_iff, DataW.lit.injEq, Lit.string.injEq] at h2
        obtain ⟨z', hz', rfl⟩ := h2
        simp [h1, hz']
      · rw [List.getElem?_eq_none (by omega), List.getElem?_eq_none (by simp; omega)]
    · cases h
theorem sys_data : (Rows.laid_letterbox_flags_system : DataW Unit) = .agg (sysL.map fun z => .lit (.string z)) := by kernel_rfl
theorem sys_named : Tryz.prog.globalNamed "letterbox/flags.system" = some 0 := by kernel_rfl
theorem sys_type : (Tryz.prog.globals[0]?).map (·.type) = some 111 := by kernel_rfl
theorem sys_cells : Tryz.prog.cellsOf 111 = 5 := by kernel_rfl
/-- what is laid, but for the handle -/
def plainLaid : List (String × DataW Unit) := [("unicode/utf8.acceptRanges", Rows.laid_unicode_utf8_acceptRanges), ("letterbox/flags.system", Rows.laid_letterbox_flags_system), ("unicode/utf8.first", Rows.laid_unicode_utf8_first)]
theorem sys_of_laid {W : World} (h : laidMet Tryz.prog plainLaid W) : FlagG W := by
  obtain ⟨ps, hv, _, hrow⟩ := h
  obtain ⟨_, _, _, _, _, q0, _, _, _, _, hv, rfl⟩ := hv
  obtain ⟨g', t', cs, fuel, p, q, hg', ht', hvar, hd, _, rfl⟩ := hv
  obtain rfl := Option.some.inj (sys_named.symm.trans hg')
  obtain rfl := Option.some.inj (sys_type.symm.trans ht')
  rw [sys_data] at hd
  have hcs := cells_of_strs Tryz.underlying111 Tryz.underlying9 cellsS sys_cells hd
  have hsz : cs.size = 5 := by
    have := congrArg List.length hcs
    simpa [sysL] using this
  obtain ⟨⟨c, t, hb⟩, _⟩ := hrow 0 0 (List.mem_append_right _ (List.mem_append_left _ (List.mem_append_left _ (MemPlace.mem_row.2 ⟨0, by omega, rfl⟩))))
  refine ⟨t, ?_⟩
  have e : c = cs := by
    unfold World.var? at hvar
    rw [sys_named, Option.bind_some, hb] at hvar
    exact Option.some.inj hvar
  subst e
  rw [hb, ← hcs]
/-- the witness's world: the two tables and flags.system lie as their initialisers lay them -/
noncomputable def laidWorld (os : Os) : World :=
  let w0 := World.holding Tryz.prog os ⟨#[], #[], []⟩
  let put (h : Array Obj) (g : Nat) (cs : Array Value) : Array Obj := h.modify g fun
    | .cells _ t frozen => .cells cs t frozen
    | o => o
  let h1 := put w0.heap 3 (Lib.firstTab.map fun z => Value.int .u8 z).toArray
  let h2 := put h1 4 ((List.range 16).flatMap fun i => [Value.int .u8 (Lib.accLo i), Value.int .u8 (Lib.accHi i)]).toArray
  let h2b := put h2 0 ((sysL.map fun t => Value.string ⟨t.toArray⟩).toArray)
  let h3 := put h2b 2 #[.iface 194 (.agg #[.pointer (some ⟨GB, 55, none⟩)])]
  { w0 with heap := h3 }
theorem laid_met (os : Os) (args : Array Value) : laidMetH Tryz.prog Rows.boxPlaysRow.laid ((laidWorld os).forCall (fun _ _ => 0) ⟨#[], args, []⟩).memory :=
  laidMetH_of_parts
    (LaidIn.of_run (l := plainLaid) [4, 0, 3] 8 (by kernel_rfl) (by kernel_rfl) (by kernel_rfl) (by kernel_rfl)).met
    (by kernel_rfl)
theorem witness_row (os : Os) {H : Type} (enc : TypeId × Value → H) :
    (OpenSpec.ofChange Rows.boxPlaysSpec).preRow enc Tryz.prog Tryz.f3 Rows.boxPlaysRow.domain false Rows.boxPlaysRow.laid ((laidWorld os).forCall (fun _ _ => 0) ⟨#[], #[.int .i64 0, .int .i64 0, .slice none 0 0, .slice none 0 0], []⟩).memory #[.int .i64 0, .int .i64 0, .slice none 0 0, .slice none 0 0] := by
  have hw : (DataW.whole enc Tryz.prog ((laidWorld os).forCall (fun _ _ => 0) ⟨#[], #[.int .i64 0, .int .i64 0, .slice none 0 0, .slice none 0 0], []⟩).memory Tryz.f3.params.toList (OpenSpec.ofChange Rows.boxPlaysSpec).vars false #[Value.int .i64 0, Value.int .i64 0, Value.slice none 0 0, Value.slice none 0 0].toList 8).map (fun x => (x.1, x.2.1)) =
      some ([.lit (.int .i64 0), .lit (.int .i64 0), .nil, .nil], []) := by kernel_rfl
  obtain ⟨⟨x1, x2, x3⟩, hx, hx1⟩ := Option.map_eq_some_iff.1 hw
  simp only [Prod.mk.injEq] at hx1
  obtain ⟨rfl, rfl⟩ := hx1
  exact OpenSpec.preRow_of_cond 8 hx (by kernel_rfl) (fun k hk => by cases hk) (by kernel_rfl) (laid_met os _)
/-- a row of strings that is handed over, as the walks read it -/
theorem row_of {H : Type} {enc : TypeId × Value → H} {W : World} {a0 : Option Addr} {len cap : Nat} {d : DataW H} {p : List MemPlace} {fuel : Nat}
    (hf : DataW.trod enc Tryz.prog W 0 (fun _ => true) true fuel 35 (Value.slice a0 len cap).cells.toList = some (d, p)) (hlt : ∀ x ∈ p, x.block < W.heap.size) :
    ∃ l : List (List UInt8), SRow W (.slice a0 len cap) l ∧ SafeV W.heap.size W (.slice a0 len cap) ∧ ∀ t ∈ l, t.length ≤ 9223372036854775807 := by
  rcases open_strings Tryz.underlying35 Tryz.underlying9 cellsS hf with ⟨hcs, hx⟩ | ⟨a, len', cap', ss, hcs, _, hl, hm, hz, hx, hcell, hws⟩
  · simp [Value.cells] at hcs
    obtain ⟨rfl, rfl, rfl⟩ := hcs
    exact ⟨[], ⟨none, 0, rfl, Nat.le_refl _, ⟨by decide, fun _ => rfl⟩, fun j n hj => by simp at hj⟩, safe_nil _ _, fun t ht => by cases ht⟩
  · simp [Value.cells] at hcs
    obtain ⟨rfl, rfl, rfl⟩ := hcs
    simp only [Prod.mk.injEq] at hx
    obtain ⟨rfl, rfl⟩ := hx
    simp only [if_true] at hz
    unfold maxLen at hm
    have hlen : ((ss.take len).map (·.data.toList)).length = len := by simp; omega
    refine ⟨(ss.take len).map (·.data.toList), ⟨some a, cap, by rw [hlen], by rw [hlen]; exact hl, ⟨by omega, fun h => by cases h⟩, fun j n hj => ?_⟩, fun a' n' c' e hc => ?_, fun t ht => ?_⟩
    · rw [List.getElem?_map] at hj
      obtain ⟨y, hy, rfl⟩ := Option.map_eq_some_iff.1 hj
      have hjl : j < len := by
        have := (List.getElem?_eq_some_iff.1 hy).1
        rw [List.length_take] at this; omega
      rw [List.getElem?_take, if_pos hjl] at hy
      obtain ⟨b, off, spot⟩ := a
      have hc := hcell j (by omega)
      have hspot : spot = none := by simpa [Addr.add] using World.cell?_spot (hcell 0 (by omega))
      subst hspot
      have hbW : b < W.heap.size := hlt (.cell b (off + j)) (MemPlace.mem_row.2 ⟨j, by omega, by simp⟩)
      refine ⟨b, off, rfl, hbW, ?_⟩
      rw [← add_pl, hc]
      have e : ss.getD j ByteArray.empty = y := by rw [List.getD, hy]; rfl
      rw [e]
    · cases e
      have hb : a.block < W.heap.size := hlt (.cell a.block (a.off + 0)) (MemPlace.mem_row.2 ⟨0, by omega, by simp⟩)
      exact ⟨hb, Or.inl hb⟩
    · obtain ⟨y, hy, rfl⟩ := List.mem_map.1 ht
      have := hws y (List.mem_of_mem_take hy)
      unfold maxLen at this
      have e := Lib.size_eq y
      omega
/-- a struct of one-cell fields that is handed over: each field's reading -/
theorem struct_ones {H : Type} {enc : TypeId × Value → H} {P : Program} {w : World} {base : Nat} {sp : Nat → Bool} {held : Bool} {t : TypeId} {fs : Array Field} {fuel : Nat} {cs : List Value} {x : DataW H × List MemPlace} (he : P.underlying t = some (.struct fs)) (hone : Go.Deep.oneCellFields P fs = true) (hC : P.cellsOf t = fs.size) (h : DataW.trod enc P w base sp held fuel t cs = some x) :
    ∃ (ys : List (DataW H × List MemPlace)) (n : Nat), x = (.agg (ys.map (·.1)), ys.flatMap (·.2)) ∧ cs.length = fs.size ∧ ys.length = fs.size ∧ ∀ (i : Nat) (f : Field), fs[i]? = some f → ∀ v, cs[i]? = some v → DataW.trod enc P w base sp held n f.type [v] = ys[i]? := by
  obtain ⟨ys, n, _, hx, hl, hy, hg⟩ := DataW.trod_struct he h
  refine ⟨ys, n, hx, hl.trans hC, hy, fun i f hf v hv => ?_⟩
  have h1 := hg i f hf
  obtain ⟨ho, hk⟩ := Go.Deep.hone_of hone i f hf
  obtain ⟨hi, e⟩ := List.getElem?_eq_some_iff.1 hv
  rw [ho, hk, List.drop_eq_getElem_cons hi, e] at h1
  exact h1
theorem let_cells : Tryz.prog.cellsOf 51 = 4 := by kernel_rfl
set_option maxRecDepth 100000 in
set_option maxHeartbeats 2000000 in
theorem let_of {H : Type} {enc : TypeId × Value → H} {W : World} {n : Nat} {cs : List Value} {x : DataW H × List MemPlace}
    (hf : DataW.trod enc Tryz.prog W 0 (fun _ => true) true n 51 cs = some x) (hlt : ∀ y ∈ x.2, y.block < W.heap.size) :
    ∃ (z : Let × Value), cs = cells1 z ∧ SRow W z.2 z.1.flags ∧ SafeV W.heap.size W z.2 ∧ (∀ t ∈ z.1.flags, t.length ≤ 9223372036854775807) ∧ z.1.text.length ≤ 9223372036854775807 := by
  obtain ⟨ys, m, rfl, hlen, hyl, hg⟩ := struct_ones Tryz.underlying51 (by kernel_rfl) (by kernel_rfl) hf
  match cs, (show cs.length = 4 from hlen) with
  | [c0, c1, c2, c3], _ =>
    match ys, (show ys.length = 4 from hyl) with
    | [y0, y1, y2, y3], _ =>
      have g0 : DataW.trod enc Tryz.prog W 0 (fun _ => true) true m 3 [c0] = some y0 := hg 0 _ rfl c0 rfl
      have g1 : DataW.trod enc Tryz.prog W 0 (fun _ => true) true m 35 [c1] = some y1 := hg 1 _ rfl c1 rfl
      have g2 : DataW.trod enc Tryz.prog W 0 (fun _ => true) true m 3 [c2] = some y2 := hg 2 _ rfl c2 rfl
      have g3 : DataW.trod enc Tryz.prog W 0 (fun _ => true) true m 9 [c3] = some y3 := hg 3 _ rfl c3 rfl
      obtain ⟨n0, e0, _, w0⟩ := DataW.trod_int Tryz.underlying3 g0
      simp only [List.cons.injEq, and_true] at e0
      subst e0
      have b0 : IntKind.i64.min ≤ n0 ∧ n0 ≤ 9223372036854775807 := by simpa [Lit.wf] using w0
      obtain ⟨a0, len, cap, hc3⟩ : ∃ a0 len cap, c1 = .slice a0 len cap := by
        rcases open_strings Tryz.underlying35 Tryz.underlying9 cellsS g1 with ⟨hcs, _⟩ | ⟨a, len', cap', ss, hcs, _⟩
        · simp only [List.cons.injEq, and_true] at hcs
          exact ⟨_, _, _, hcs⟩
        · simp only [List.cons.injEq, and_true] at hcs
          exact ⟨_, _, _, hcs⟩
      subst hc3
      obtain ⟨d3, p3⟩ := y1
      obtain ⟨l, hl, hsf, ht⟩ := row_of (a0 := a0) (len := len) (cap := cap) g1 (fun y hy => hlt y (by simp [hy]))
      obtain ⟨n2, e2, _, w2⟩ := DataW.trod_int Tryz.underlying3 g2
      simp only [List.cons.injEq, and_true] at e2
      subst e2
      have b2 : IntKind.i64.min ≤ n2 ∧ n2 ≤ 9223372036854775807 := by simpa [Lit.wf] using w2
      obtain ⟨s, e3, _, ws⟩ := DataW.trod_string Tryz.underlying9 g3
      simp only [List.cons.injEq, and_true] at e3
      subst e3
      have hstr : (⟨s.data.toList.toArray⟩ : ByteArray) = s := by apply ByteArray.ext; simp
      have hsl : s.data.toList.length ≤ 9223372036854775807 := by
        have e := Lib.size_eq s
        unfold maxLen at ws
        omega
      refine ⟨(⟨n0, l, n2, s.data.toList⟩, .slice a0 len cap), ?_, hl, hsf, ht, hsl⟩
      show _ = [_, _, _, Value.string ⟨s.data.toList.toArray⟩]
      rw [hstr]
theorem post_cells : Tryz.prog.cellsOf 37 = 6 := by kernel_rfl
set_option maxRecDepth 100000 in
set_option maxHeartbeats 2000000 in
theorem post_of {H : Type} {enc : TypeId × Value → H} {W : World} {n : Nat} {cs : List Value} {x : DataW H × List MemPlace}
    (hf : DataW.trod enc Tryz.prog W 0 (fun _ => true) true n 37 cs = some x) (hlt : ∀ y ∈ x.2, y.block < W.heap.size) :
    ∃ (x : Pst × Bool) (fv : Value), cs = (pstL x.1 fv x.2).toList ∧ SRow W fv x.1.flags ∧ SafeV W.heap.size W fv ∧ ((∀ t ∈ x.1.flags, t.length ≤ 9223372036854775807) ∧ x.1.text.length ≤ 9223372036854775807) ∧ -9223372036854775808 ≤ x.1.uid ∧ x.1.uid ≤ 9223372036854775807 ∧ -9223372036854775808 ≤ x.1.n ∧ x.1.n ≤ 9223372036854775807 := by
  obtain ⟨ys, m, rfl, hlen, hyl, hg⟩ := struct_ones Tryz.underlying37 (by kernel_rfl) (by kernel_rfl) hf
  match cs, (show cs.length = 6 from hlen) with
  | [c0, c1, c2, c3, c4, c5], _ =>
    match ys, (show ys.length = 6 from hyl) with
    | [y0, y1, y2, y3, y4, y5], _ =>
      have g0 : DataW.trod enc Tryz.prog W 0 (fun _ => true) true m 3 [c0] = some y0 := hg 0 _ rfl c0 rfl
      have g1 : DataW.trod enc Tryz.prog W 0 (fun _ => true) true m 3 [c1] = some y1 := hg 1 _ rfl c1 rfl
      have g2 : DataW.trod enc Tryz.prog W 0 (fun _ => true) true m 3 [c2] = some y2 := hg 2 _ rfl c2 rfl
      have g3 : DataW.trod enc Tryz.prog W 0 (fun _ => true) true m 35 [c3] = some y3 := hg 3 _ rfl c3 rfl
      have g4 : DataW.trod enc Tryz.prog W 0 (fun _ => true) true m 9 [c4] = some y4 := hg 4 _ rfl c4 rfl
      have g5 : DataW.trod enc Tryz.prog W 0 (fun _ => true) true m 4 [c5] = some y5 := hg 5 _ rfl c5 rfl
      obtain ⟨n0, e0, _, w0⟩ := DataW.trod_int Tryz.underlying3 g0
      simp only [List.cons.injEq, and_true] at e0
      subst e0
      have b0 : IntKind.i64.min ≤ n0 ∧ n0 ≤ 9223372036854775807 := by simpa [Lit.wf] using w0
      obtain ⟨n1, e1, _, w1⟩ := DataW.trod_int Tryz.underlying3 g1
      simp only [List.cons.injEq, and_true] at e1
      subst e1
      have b1 : IntKind.i64.min ≤ n1 ∧ n1 ≤ 9223372036854775807 := by simpa [Lit.wf] using w1
      obtain ⟨n2, e2, _, w2⟩ := DataW.trod_int Tryz.underlying3 g2
      simp only [List.cons.injEq, and_true] at e2
      subst e2
      have b2 : IntKind.i64.min ≤ n2 ∧ n2 ≤ 9223372036854775807 := by simpa [Lit.wf] using w2
      obtain ⟨a0, len, cap, hc3⟩ : ∃ a0 len cap, c3 = .slice a0 len cap := by
        rcases open_strings Tryz.underlying35 Tryz.underlying9 cellsS g3 with ⟨hcs, _⟩ | ⟨a, len', cap', ss, hcs, _⟩
        · simp only [List.cons.injEq, and_true] at hcs
          exact ⟨_, _, _, hcs⟩
        · simp only [List.cons.injEq, and_true] at hcs
          exact ⟨_, _, _, hcs⟩
      subst hc3
      obtain ⟨d3, p3⟩ := y3
      obtain ⟨l, hl, hsf, ht⟩ := row_of (a0 := a0) (len := len) (cap := cap) g3 (fun y hy => hlt y (by simp [hy]))
      obtain ⟨s, e4, _, ws⟩ := DataW.trod_string Tryz.underlying9 g4
      simp only [List.cons.injEq, and_true] at e4
      subst e4
      obtain ⟨bb, e5, _⟩ := DataW.trod_bool Tryz.underlying4 g5
      simp only [List.cons.injEq, and_true] at e5
      subst e5
      have hstr : (⟨s.data.toList.toArray⟩ : ByteArray) = s := by apply ByteArray.ext; simp
      have hsl : s.data.toList.length ≤ 9223372036854775807 := by
        have e := Lib.size_eq s
        unfold maxLen at ws
        omega
      refine ⟨(⟨n0, n1, n2, l, s.data.toList⟩, bb), .slice a0 len cap, ?_, hl, hsf, ⟨ht, hsl⟩, b1.1, b1.2, b2.1, b2.2⟩
      show _ = [_, _, _, _, Value.string ⟨s.data.toList.toArray⟩, _]
      rw [hstr]
set_option maxRecDepth 100000 in
set_option maxHeartbeats 2000000 in
/-- a row of structs that is handed over: what holds of each; where its cells lie -/
theorem rowS_of {H : Type} {enc : TypeId × Value → H} {W : World} {a0 : Option Addr} {len cap : Nat} {d : DataW H} {p : List MemPlace} {fuel : Nat} {T E : TypeId} {S : Nat} (hT : Tryz.prog.underlying T = some (.slice E)) (hS : Tryz.prog.cellsOf E = S) (hS0 : 0 < S) {α : Type} {Good : α → Prop} {cellsX : α → List Value} (hcl : ∀ x, (cellsX x).length = S)
    (hone : ∀ {n : Nat} {cs : List Value} {y : DataW H × List MemPlace}, DataW.trod enc Tryz.prog W 0 (fun _ => true) true n E cs = some y → (∀ z ∈ y.2, z.block < W.heap.size) → ∃ x, cs = cellsX x ∧ Good x)
    (hf : DataW.trod enc Tryz.prog W 0 (fun _ => true) true fuel T (Value.slice a0 len cap).cells.toList = some (d, p)) (hlt : ∀ x ∈ p, x.block < W.heap.size) :
    ∃ l : List α, l.length = len ∧ len ≤ cap ∧ (cap ≤ 9223372036854775807 ∧ (a0 = none → cap = 0)) ∧ (∀ x ∈ l, Good x) ∧ (∀ a, a0 = some a → 0 < cap → a.block < W.heap.size) ∧ ∀ (j i : Nat) (x : α) (u : Value), l[j]? = some x → (cellsX x)[i]? = some u → ∃ b off, a0 = some ⟨b, off, none⟩ ∧ b < W.heap.size ∧ W.cell? ⟨b, off + (j * S + i), none⟩ = some u := by
  rcases Go.Deep.open_slice hT hf with ⟨hcs, hx⟩ | ⟨a, len', cap', m, n, D, Pl, hcs, _, hl, hm, hmm, hx, hi⟩
  · simp [Value.cells] at hcs
    obtain ⟨rfl, rfl, rfl⟩ := hcs
    exact ⟨[], rfl, Nat.le_refl _, ⟨by decide, fun _ => rfl⟩, fun t ht => (by cases ht), fun a h => (by cases h), fun j i x u h => by simp at h⟩
  · simp [Value.cells] at hcs
    obtain ⟨rfl, rfl, rfl⟩ := hcs
    simp only [if_true] at hmm
    obtain rfl := hmm.symm
    simp only [Prod.mk.injEq] at hx
    obtain ⟨_, rfl⟩ := hx
    rw [hS] at hi hlt
    have hk : ∀ j : Fin len, ∃ x : α, Good x ∧ ∀ (i : Nat) (u : Value), (cellsX x)[i]? = some u → W.cell? ((a.add (j.1 * S)).add i) = some u := fun j => by
      have hjm : j.1 < cap := Nat.lt_of_lt_of_le j.2 hl
      obtain ⟨cs', hc, ht⟩ := hi j.1 hjm
      obtain ⟨_, hcl', hat⟩ := World.cells?_some hc
      obtain ⟨x, rfl, hg⟩ := hone ht (fun y hy => hlt y (List.mem_append_right _ (List.mem_flatMap.2 ⟨j.1, List.mem_range.2 hjm, hy⟩)))
      refine ⟨x, hg, fun i u hu => ?_⟩
      have hiS : i < S := by
        have := (List.getElem?_eq_some_iff.1 hu).1
        rw [hcl x] at this; exact this
      rw [hat i hiS]
      exact hu
    obtain ⟨f, hf2⟩ := Classical.axiomOfChoice hk
    have hlen : (List.ofFn f).length = len := by simp
    have hget : ∀ (j : Nat) (x : α), (List.ofFn f)[j]? = some x → ∃ h : j < len, x = f ⟨j, h⟩ := fun j x hj => by
      have h : j < len := by rw [← hlen]; exact (List.getElem?_eq_some_iff.1 hj).1
      refine ⟨h, ?_⟩
      simp [h] at hj
      exact hj.symm
    refine ⟨List.ofFn f, hlen, hl, ⟨by unfold maxLen at hm; omega, fun h => by cases h⟩, fun x hx => ?_, fun a' e hc => ?_, fun j i x u hj hu => ?_⟩
    · obtain ⟨j, hj⟩ := List.getElem?_of_mem hx
      obtain ⟨h, rfl⟩ := hget j x hj
      exact (hf2 ⟨j, h⟩).1
    · cases e
      exact hlt (.cell a.block (a.off + 0)) (List.mem_append_left _ (MemPlace.mem_row.2 ⟨0, Nat.mul_pos hc hS0, by simp⟩))
    · obtain ⟨hjl, rfl⟩ := hget j x hj
      obtain ⟨_, hc⟩ := hf2 ⟨j, hjl⟩
      have h1 := hc i u hu
      have hiS : i < S := by
        have := (List.getElem?_eq_some_iff.1 hu).1
        rw [hcl] at this; exact this
      obtain ⟨b, off, spot⟩ := a
      have hspot : spot = none := by
        have hc0 : 0 < (cellsX (f ⟨0, by omega⟩)).length := by rw [hcl]; exact hS0
        obtain ⟨u0, hu0⟩ : ∃ u0, (cellsX (f ⟨0, by omega⟩))[0]? = some u0 := ⟨(cellsX (f ⟨0, by omega⟩))[0]'hc0, List.getElem?_eq_getElem hc0⟩
        simpa [Addr.add] using World.cell?_spot ((hf2 ⟨0, by omega⟩).2 0 u0 hu0)
      subst hspot
      rw [add_pl, add_pl] at h1
      refine ⟨b, off, rfl, hlt (.cell b (off + j * S)) (List.mem_append_left _ (MemPlace.mem_row.2 ⟨j * S, Nat.mul_lt_mul_of_pos_right (Nat.lt_of_lt_of_le hjl hl) hS0, by simp⟩)), ?_⟩
      rw [← Nat.add_assoc]
      exact h1
theorem cell_split {zs : List (Let × Value)} {j : Nat} {u : Value} (h : (cellsL zs)[j]? = some u) : ∃ q r z, j = q * 4 + r ∧ zs[q]? = some z ∧ (cells1 z)[r]? = some u := by
  obtain ⟨q, r, hr, e⟩ : ∃ q r, r < 4 ∧ j = q * 4 + r := ⟨j / 4, j % 4, Nat.mod_lt _ (by decide), by omega⟩
  rw [e, cellsL_get _ _ _ hr] at h
  cases hz : zs[q]? with
  | none => rw [hz] at h; cases h
  | some z => rw [hz] at h; exact ⟨q, r, z, e, hz, h⟩
set_option maxRecDepth 100000 in
set_option maxHeartbeats 2000000 in
theorem lifted (os : Os) (started : os.Started) (H : Type) (enc : TypeId × Value → H) (F : Stop.Interp) :
    ReturnsInHanded {} Tryz.checked os 3 .any ((OpenSpec.ofChange Rows.boxPlaysSpec).preRow enc Tryz.prog Tryz.f3 Rows.boxPlaysRow.domain false Rows.boxPlaysRow.laid) (((OpenSpec.ofChange Rows.boxPlaysSpec).at F).post enc Tryz.prog Tryz.f3 false true false false) := by
  refine returnsInHanded_of_row (C := Tryz.checked) (s := OpenSpec.ofChange Rows.boxPlaysSpec) own started (by kernel_rfl) Tryz.func3
    (witness_row_atRef (enc := enc) (C := Tryz.checked) false (laidWorld os) #[.int .i64 0, .int .i64 0, .slice none 0 0, .slice none 0 0] rfl (by kernel_rfl) (by kernel_rfl) (by kernel_rfl) (witness_row os enc)) ?_
  intro W base args ds gs before hval0 hW _ _ _ hL hsh _
  have hval : ∀ (j : Nat) t v, Tryz.f3.params[j]? = some t → args[j]? = some v → Value.okWide Tryz.prog W .any base t v := hval0
  have hW' := hW
  obtain ⟨p, q, hA0, hV0, rfl, _, _⟩ := hW
  have hA : DataW.TrodAll enc Tryz.prog W 0 (fun _ => true) true Tryz.f3.params.toList args.toList ds p := hA0
  rw [Tryz.params3] at hA hval
  obtain ⟨v0, v1, v2, v3, d0, d1, d2, d3, p0, p1, p2, p3, rfl, rfl, rfl, h0, h1, h2, h3⟩ := trodAll_four hA
  obtain ⟨rfl, rfl⟩ := trodVars_none hV0
  obtain ⟨z0, rfl, rfl, rfl, wz0⟩ := open_int Tryz.underlying3 (hval 0 3 v0 rfl rfl) h0
  obtain ⟨z1, rfl, rfl, rfl, wz1⟩ := open_int Tryz.underlying3 (hval 1 3 v1 rfl rfl) h1
  obtain ⟨a2, len2, cap2, rfl⟩ := okWide_slice Tryz.underlying22 (hval 2 22 v2 rfl rfl)
  obtain ⟨a3, len3, cap3, rfl⟩ := okWide_slice Tryz.underlying23 (hval 3 23 v3 rfl rfl)
  clear hA0 hV0 hval0
  have hlt2 : ∀ x ∈ p2, x.block < W.heap.size := fun x hx => hW'.lt x (by simp [hx])
  have hlt3 : ∀ x ∈ p3, x.block < W.heap.size := fun x hx => hW'.lt x (by simp [hx])
  have h2k := h2
  have h3k := h3
  obtain ⟨fuel2, hf2⟩ := h2
  obtain ⟨fuel3, hf3⟩ := h3
  have hL' : laidMet Tryz.prog plainLaid W ∧ handlesMet Tryz.prog [("errors.errorType", (Rows.laid_errors_errorType : DataW Unit))] W := hL
  have hE := handle_of_laid hL'.2
  have hG := sys_of_laid hL'.1
  obtain ⟨zs, hzl, hzc, hzm, hzg, hzb, hzcell⟩ := rowS_of (Good := fun z : Let × Value => SRow W z.2 z.1.flags ∧ SafeV W.heap.size W z.2 ∧ (∀ t ∈ z.1.flags, t.length ≤ 9223372036854775807) ∧ z.1.text.length ≤ 9223372036854775807) Tryz.underlying22 let_cells (by decide) (cellsX := cells1) (fun _ => rfl) (fun h k => let_of h k) hf2 hlt2
  obtain ⟨ps, hpl, hpc, hpm, hpg, _, hpcell⟩ := rowS_of (Good := fun y : (Pst × Bool) × Value => SRow W y.2 y.1.1.flags ∧ SafeV W.heap.size W y.2 ∧ ((∀ t ∈ y.1.1.flags, t.length ≤ 9223372036854775807) ∧ y.1.1.text.length ≤ 9223372036854775807) ∧ -9223372036854775808 ≤ y.1.1.uid ∧ y.1.1.uid ≤ 9223372036854775807 ∧ -9223372036854775808 ≤ y.1.1.n ∧ y.1.1.n ≤ 9223372036854775807) Tryz.underlying23 post_cells (by decide) (cellsX := fun y => (pstL y.1.1 y.2 y.1.2).toList) (fun _ => rfl) (fun h k => let ⟨x, fv, e, g⟩ := post_of h k; ⟨(x, fv), e, g⟩) hf3 hlt3
  subst hzl hpl
  have hx : XRow W.heap.size W (.slice a2 zs.length cap2) zs := ⟨⟨a2, cap2, rfl, hzc, hzm, fun z hz => (hzg z hz).1, fun j u hj => by
    obtain ⟨q, r, z, rfl, hq, hr⟩ := cell_split hj
    exact hzcell q r z u hq hr⟩, fun a n c e hc => by
    cases e
    have hb := hzb _ rfl hc
    exact ⟨hb, Or.inl hb⟩, fun z hz => (hzg z hz).2.1⟩
  have hv : PRowL W (.slice a3 ps.length cap3) (ps.map (·.1)) := ⟨a3, cap3, by rw [List.length_map], by rw [List.length_map]; exact hpc, hpm, fun j x hj => by
    rw [List.getElem?_map] at hj
    obtain ⟨y, hy, rfl⟩ := Option.map_eq_some_iff.1 hj
    have hgy := hpg y (List.mem_of_getElem? hy)
    obtain ⟨b, off, e, hb, c0⟩ := hpcell j 0 y _ hy rfl
    have hc : ∀ (i : Nat) (u : Value), (pstL y.1.1 y.2 y.1.2).toList[i]? = some u → W.cell? ⟨b, off + j * 6 + i, none⟩ = some u := fun i u hu => by
      obtain ⟨b', off', e', _, c⟩ := hpcell j i y u hy hu
      rw [e] at e'
      cases e'
      rwa [Nat.add_assoc]
    exact ⟨b, off, y.2, e, hb, hgy.1, hgy.2.1, hc 0 _ rfl, hc 1 _ rfl, hc 2 _ rfl, hc 3 _ rfl, hc 4 _ rfl, hc 5 _ rfl⟩⟩
  refine (plays_any z0 z1 _ _ zs (ps.map (·.1)) W hx (fun a n c e hc => by cases e; exact hzb _ rfl hc) (fun z hz => (hzg z hz).2.2) hv (fun x hx => by
    obtain ⟨y, hy, rfl⟩ := List.mem_map.1 hx
    exact (hpg y hy).2.2.1) (fun x hx => by
    obtain ⟨y, hy, rfl⟩ := List.mem_map.1 hx
    exact (hpg y hy).2.2.2) hG hE).mono ?_
  rintro e W' ⟨rfl, bel⟩
  refine ⟨_, rfl, _, _, _, [], [] ++ ([] ++ (p2 ++ p3)), [], hW', ?_, ?_, ?_, bel.frame _, fun h => by cases h⟩
  · exact trodAll_mk1 (shut_bool Tryz.underlying4 _)
  · exact trodAll_mk4 (shut_int Tryz.underlying3 wz0) (shut_int Tryz.underlying3 wz1) (Below.trod laidOut (by kernel_rfl) (of_decide_eq_true (by kernel_rfl)) h2k bel hlt2) (Below.trod laidOut (by kernel_rfl) (of_decide_eq_true (by kernel_rfl)) h3k bel hlt3)
  · rfl
theorem said : Rows.BoxPlaysSaid :=
  OpenClaim.holds_of_cond 3 Tryz.f3 rfl rfl rfl rfl rfl rfl rfl ⟨rfl, rfl, rfl, rfl, rfl⟩ rfl rfl rfl rfl rfl (by kernel_rfl) Tryz.func3 (by kernel_rfl)
    (of_decide_eq_true (by kernel_rfl)) (by unfold Func.isWrapper; rw [if_neg (of_decide_eq_false (by kernel_rfl))]; exact ⟨rfl, rfl⟩)
    (fun os started H enc _ F0 => by rw [OpenClaim.pre_eq_preRow]; exact lifted os started H enc F0)
theorem card_holds : Rows.BoxPlaysCardSaid :=
  Claim7.holds_tied_plain_at .later [] _ true _ true
    said (fun _ h => by cases h) (by kernel_rfl) (fun _ h => by cases h) boxPlays_row_tie rfl ⟨rfl, rfl⟩ (by kernel_rfl) rfl
    (fun f fn hf hfn => by
      obtain rfl : f = 3 := Option.some.inj ((show Tryz.prog.funcNamed Rows.boxPlaysRow.func = some 3 by kernel_rfl).symm.trans hf) |>.symm
      obtain rfl : fn = Tryz.f3 := (Option.some.inj (Tryz.func3.symm.trans hfn)).symm
      exact ⟨by kernel_rfl, fun j t ht => by
        rw [Tryz.params3] at ht
        have hm : t ∈ [3, 3, 22, 23] := by simpa using Array.mem_of_getElem? ht
        have hall : ([3, 3, 22, 23].all fun u => !Tryz.prog.wantsStandIn u) = true := by kernel_rfl
        exact (show Tryz.prog.wantsStandIn t = false by simpa using List.all_eq_true.1 hall t hm)⟩)
    (by kernel_rfl)
#print axioms card_holds
end Go.Proofs.YteclajckkjocnaaGreatDoor.boxPlays
