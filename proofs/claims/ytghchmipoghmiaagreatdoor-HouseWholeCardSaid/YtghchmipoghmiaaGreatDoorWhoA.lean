/- The walk over the statement HouseWhole: it returns true. Conditions: utf8's two tables, bytealg.MaxLen, errors.errorType, flags.system, strconv's table of powers lie as the program's text lays them. -/
import Derived.Test.YtghchmipoghmiaaGreatDoorHouY
import Derived.Test.YtghchmipoghmiaaGreatDoorHouQ
import Derived.Test.YtghchmipoghmiaaGreatDoorHouJ
namespace Go.Proofs.YtghchmipoghmiaaGreatDoor
open Go.RowKit Go.Shelf Go.Sort Go.Maps
set_option linter.unusedSimpArgs false

theorem deed_err {p : HouP} {x : DeedP} {k : Nat} (h : (deedP p x).1 = some k) : (deedP p x).2 = p := by
  unfold deedP at h ⊢
  split
  · rename_i e
    rw [if_pos e] at h
    unfold createP at h ⊢
    split
    · rfl
    · rename_i e2; rw [e2] at h; cases h
  rename_i e0
  rw [if_neg e0] at h
  split
  · rename_i e
    rw [if_pos e] at h
    unfold deleteP at h ⊢
    split
    · rfl
    · rename_i e2; rw [e2] at h; cases h
  rename_i e1
  rw [if_neg e1] at h
  split
  · rename_i e
    rw [if_pos e] at h
    unfold renameP at h ⊢
    split
    · rfl
    · rename_i e2
      rw [e2] at h
      split
      · rfl
      · rename_i e3
        rw [e3] at h
        simp only at h
        split
        · rename_i e4
          rw [if_pos e4] at h
          split
          · rfl
          · rename_i e5; rw [e5] at h; cases h
        · rename_i e4
          rw [if_neg e4] at h
          split
          · rfl
          · rename_i e5; rw [e5] at h; cases h
  rename_i e2
  rw [if_neg e2] at h
  split
  · rename_i e
    rw [if_pos e] at h
    unfold wantP at h ⊢
    split
    · rfl
    · rename_i e3; rw [e3] at h; cases h
  rename_i e3
  rw [if_neg e3] at h
  split
  · rename_i e
    rw [if_pos e] at h
    unfold putP at h ⊢
    split
    · rfl
    · rename_i e4
      rw [e4] at h
      simp only at h
      split
      · rfl
      · rename_i e5; rw [e5] at h; cases h
  · rfl
theorem full_new : Full newP 2 := by
  have h0 : Good ⟨[], fun _ => ⟨0, 0, []⟩, [], 1⟩ := ⟨List.Pairwise.nil, (fun x hx => by cases hx), (fun x hx => by cases hx), (fun x hx => by cases hx), by decide⟩
  have hL : newP.L = [inboxB] := rfl
  refine ⟨h0.mk1 (by simp) (by decide), ⟨List.Pairwise.nil, fun n hn => ?_, (fun n hn => by cases hn), (by rw [hL]; simp), fun a t h => ?_⟩, new_inB⟩
  · rw [hL, List.mem_singleton] at hn
    subst hn
    show hnameF inboxB = some inboxB
    decide +kernel
  · rw [hL, List.mem_singleton] at h
    have : (47 : UInt8) ∈ inboxB := by rw [← h]; simp
    exact absurd this (by decide)
set_option maxRecDepth 100000 in
set_option maxHeartbeats 8000000 in
theorem houseWhole_any (v : Value) (l : List DeedP) (w : World) (hv : DRow w v l) (ht : ∀ x ∈ l, x.s.length ≤ 9223372036854775807 ∧ x.t.length ≤ 9223372036854775807) (hC : HC w) (hF : FlagG w) (hT : TabP w) :
    Calls Tryz.prog 3 #[v] w fun e w' => e = .returned (.bool true) ∧ Below w.heap.size w w' := by
  have cS := smallD_any v l w hv ht
  cases hsm : smallD l with
  | false =>
    rw [hsm] at cS
    clear hv ht hC hF hT hsm
    go_enter Tryz.func3, Tryz.ntmps3
    go_wp2_with (go_at_call 4; (with_reducible refine cS.mono ?_); rintro e w' ⟨rfl, rfl⟩)
    go_ret
    exact ⟨rfl, Below.refl _ _⟩
  | true =>
  rw [hsm] at cS
  obtain ⟨hl40, hsl⟩ := smallD_iff hsm
  have hgl := flagG_lt hF
  have cHd := housed_any w hC
  have hwg : ∀ W, Below w.heap.size w W → HC W ∧ FlagG W ∧ TabP W := fun W hb => ⟨hC.below hb, hF.below hb, hT.below hb⟩
  have HWG := Lib.hid hwg
  have HSL := Lib.hid hsl
  obtain ⟨ao, cap, rfl, hcap, ⟨hcm, _⟩, hcell⟩ := hv
  have HCL := Lib.hid hcell
  clear hC hF hT ht hsm hsl hwg hcell
  go_enter Tryz.func3, Tryz.ntmps3
  go_upto_region 5 with (first
    | (go_at_call 4; (with_reducible refine cS.mono ?_); rintro e w' ⟨rfl, rfl⟩)
    | (go_at_call 5; (with_reducible refine cHd.mono ?_); rintro e w1 ⟨rfl, hb1⟩))
  clear cS cHd
  have cNew := hnew_any w1
  obtain ⟨N, hNN⟩ : ∃ N, w1.heap.size = N := ⟨_, rfl⟩
  have hle : w.heap.size ≤ N := hNN ▸ hb1.size
  have hglN : 2 < N := Nat.lt_of_lt_of_le hgl hle
  have hall : ∀ W, Below N w1 W → Below w.heap.size w W := fun W hb => hb1.trans (hb.mono hle)
  have hsz : ∀ W, Below N w1 W → N ≤ W.heap.size := fun W hb => hNN ▸ (hNN.symm ▸ hb : Below w1.heap.size w1 W).size
  have cNew : Calls Tryz.prog 6 #[] w1 fun e w' => ∃ H mb mw, e = .returned (.pointer (some ⟨H, 0, none⟩)) ∧ Hid (Hou N w' H mb mw newP) ∧ Below N w1 w' := cNew.mono (by
    rintro e w' ⟨H, mb, mw, B, rfl, h1, h2⟩
    rw [← hNN]
    exact ⟨H, mb, mw, rfl, new_hou h1, h2⟩)
  have HALL := Lib.hid hall
  have HSZ := Lib.hid hsz
  clear hall hsz hgl
  go_upto_region 8 with (go_at_call 6; (with_reducible refine cNew.mono ?_); rintro e w2 ⟨H, mb, mw, rfl, HH2, hb2⟩)
  clear cNew
  have cAll : ∀ W N' H' mb' mw' p, Hou N' W H' mb' mw' p → Full p 3000 → N' ≤ W.heap.size → Below N w1 W → Calls Tryz.prog 7 #[.pointer (some ⟨H', 0, none⟩)] W fun e w' => e = .returned (.string ⟨(allT p).toArray⟩) ∧ Below W.heap.size W w' := fun W N' H' mb' mw' p hh hf hn hb => all_any N' H' mb' mw' p 3000 W hh hf (by decide) hn (HWG.out W (HALL.out W hb)).2.2
  have HCA := Lib.hid cAll
  have HB2 := Lib.hid hb2
  clear cAll hb2
  go_wp2_with fail
  go_loopg [4] l.length (fun g s4 wr => ∃ (k : Nat) (p : HouP), k + g = l.length ∧ s4 = .int .i64 (k : Int) ∧ Hid (Hou N wr H mb mw p) ∧ Hid (Full p (2 + 31 * (k : Int))) ∧ Hid (Below N w1 wr))
  case atStart => exact ⟨0, _, by omega, rfl, HH2, full_new, HB2⟩
  case round =>
    obtain ⟨k, p, hk, rfl, HH, HFU, HB⟩ := hrel
    clear HH2 HB2
    have hbr := HALL.out wr HB.out
    by_cases hlt : k < l.length
    · obtain ⟨g', rfl⟩ : ∃ g', gk = g' + 1 := ⟨gk - 1, by omega⟩
      obtain ⟨x, hx⟩ : ∃ x, l[k]? = some x := ⟨l[k], List.getElem?_eq_getElem hlt⟩
      obtain ⟨b, off, rfl, hb, c0, c1, c2, c3⟩ := HCL.out k x hx
      have hcx : ∀ W, Below wr.heap.size wr W → W.cell? ⟨b, off + k * 4, none⟩ = some (.int .i64 x.what) ∧ W.cell? ⟨b, off + k * 4 + 1, none⟩ = some (.string ⟨x.s.toArray⟩) ∧ W.cell? ⟨b, off + k * 4 + 2, none⟩ = some (.string ⟨x.t.toArray⟩) ∧ W.cell? ⟨b, off + k * 4 + 3, none⟩ = some (.bool x.yes) := fun W h => by
        have h2 := hbr.trans (h.mono hbr.size)
        exact ⟨(h2.cell (p := ⟨b, _, none⟩) hb).trans c0, (h2.cell (p := ⟨b, _, none⟩) hb).trans c1, (h2.cell (p := ⟨b, _, none⟩) hb).trans c2, (h2.cell (p := ⟨b, _, none⟩) hb).trans c3⟩
      have hxs := HSL.out x (List.mem_of_getElem? hx)
      have hkz : (k : Int) < (l.length : Int) := by omega
      have hF3 : Full p 3000 := HFU.out.mono (by omega)
      have cA1 := HCA.out wr N H mb mw p HH.out hF3 (HSZ.out wr HB.out) HB.out
      have hin : InB p 3000000000 := hF3.inb.mono (by decide)
      have cD : ∀ W, Below wr.heap.size wr W → Calls Tryz.prog 8 #[.pointer (some ⟨H, 0, none⟩), .agg #[.int .i64 x.what, .string ⟨x.s.toArray⟩, .string ⟨x.t.toArray⟩, .bool x.yes]] W (DoneS N W H mb mw (deedP p x)) := fun W h => by
        have hb' := HB.out.trans (h.mono (HSZ.out wr HB.out))
        obtain ⟨hc, hf, _⟩ := HWG.out W (HALL.out W hb')
        exact deed_any N H mb mw p x W (HH.out.below h) hin (HSZ.out W hb') (by omega) (by omega) hc.1 hf hglN
      have hFD : Full (deedP p x).2 (2 + 31 * ((k + 1 : Nat) : Int)) := (HFU.out.deed (by unfold maxN; omega) x).mono (by omega)
      have hne := fun k => deed_err (p := p) (x := x) (k := k)
      obtain ⟨⟨o, q⟩, hr⟩ : ∃ r, deedP p x = r := ⟨_, rfl⟩
      rw [hr] at cD hFD hne
      simp only at hFD hne
      obtain ⟨E, hE⟩ : ∃ E, errE o = E := ⟨_, rfl⟩
      have cD : ∀ W, Below wr.heap.size wr W → Calls Tryz.prog 8 #[.pointer (some ⟨H, 0, none⟩), .agg #[.int .i64 x.what, .string ⟨x.s.toArray⟩, .string ⟨x.t.toArray⟩, .bool x.yes]] W fun e w' => e = .returned E ∧ Hid (Hou N w' H mb mw q) ∧ Below N W w' := fun W h => hE ▸ cD W h
      have HE := Lib.hid hE
      clear hE
      have HFD := Lib.hid hFD
      have HNE := Lib.hid hne
      have HHB := Lib.hid (fun W (h : Below wr.heap.size wr W) => HB.out.trans (h.mono (HSZ.out wr HB.out)))
      obtain ⟨TP, hTP⟩ : ∃ t, allT p = t := ⟨_, rfl⟩
      rw [hTP] at cA1
      have HTP := Lib.hid hTP
      clear hx c0 c1 c2 c3 hbr hr hFD hne hxs hF3 hin hTP
      go_upto_region 13 with (first
        | (go_at_call 7; (with_reducible refine cA1.mono ?_); rintro e w3 ⟨rfl, h3⟩; obtain ⟨e0, e1, e2, e3⟩ := hcx _ h3)
        | (go_at_call 8; (with_reducible refine (cD _ h3).mono ?_); rintro e w4 ⟨rfl, HH4, hb4⟩; have hb4 := (HHB.out _ h3).trans hb4))
      clear e0 e1 e2 e3 hcx cA1 cD h3
      have hF4 : Full q 3000 := HFD.out.mono (by omega)
      go_cut [39] (fun s39 wx => s39 = .bool false ∧ Hid (Hou N wx H mb mw q) ∧ Hid (Below N w1 wx))
      case first =>
        cases o with
        | none =>
          obtain rfl : Value.nilIface = E := HE.out
          go_wp2_with fail
          go_meet
          exact ⟨rfl, HH4, hb4⟩
        | some e =>
          obtain rfl : Value.iface 45 (.int .i64 (e : Int)) = E := HE.out
          obtain rfl : q = p := HNE.out e rfl
          have cA2 := HCA.out w4 N H mb mw q HH4.out hF4 (HSZ.out w4 hb4) hb4
          rw [HTP.out] at cA2
          go_wp2_with (go_at_call 7; (with_reducible refine cA2.mono ?_); rintro e w5 ⟨rfl, h5⟩)
          go_meet
          exact ⟨rfl, HH4.out.below h5, hb4.trans (h5.mono (HSZ.out w4 hb4))⟩
      case rest =>
        obtain ⟨rfl, HH5, HB5⟩ := hcut
        clear HNE HTP HH HFU HE HH4 hb4
        obtain ⟨M, hM⟩ : ∃ M, q.L.length = M := ⟨_, rfl⟩
        obtain ⟨MW, hMW⟩ : ∃ M, q.W.length = M := ⟨_, rfl⟩
        obtain ⟨nx, hnx⟩ : ∃ nx, q.next = nx := ⟨_, rfl⟩
        have hin3 : InB q 3000000000 := hF4.inb.mono (by decide)
        have hm30 : q.L.length ≤ 30 := hF4.inb.many
        have cS := hsave_parts N H mb mw q _ HH5.out hin3 (HSZ.out _ HB5.out) M MW nx hM hMW hnx
        have cRt : ∀ W na nc ba bc wa wc, Hid (SRow W (.slice na M nc) q.L ∧ BRow N W (.slice ba M bc) (q.L.map q.c) ∧ SRow W (.slice wa MW wc) q.W) → Below N w1 W → Calls Tryz.prog 11 #[.agg #[.slice na M nc, .slice ba M bc, .slice wa MW wc, .int .i64 nx]] W fun e w' => e = .returned (.bool true) ∧ Below W.heap.size W w' := fun W na nc ba bc wa wc hr hb => by
          obtain ⟨hc, hf, _⟩ := HWG.out W (HALL.out W hb)
          exact hright_any N q 3000 W na ba wa M nc bc MW wc nx hr.out hM hMW hnx hF4 (by decide) hc.1 hf
        have cLd : ∀ W na nc ba bc wa wc, Hid (SRow W (.slice na M nc) q.L ∧ BRow N W (.slice ba M bc) (q.L.map q.c) ∧ SRow W (.slice wa MW wc) q.W) → Below N w1 W → Calls Tryz.prog 10 #[.agg #[.slice na M nc, .slice ba M bc, .slice wa MW wc, .int .i64 nx]] W fun e w' => ∃ H mb mw, e = .returned (.tuple #[.pointer (some ⟨H, 0, none⟩), .nilIface]) ∧ Hid (Hou W.heap.size w' H mb mw q) ∧ Below W.heap.size W w' := fun W na nc ba bc wa wc hr hb =>
          hload_any N q 3000 W na ba wa M nc bc MW wc nx hr.out hM hMW hnx hF4 (HSZ.out W hb) (fun W' h => cRt W' na nc ba bc wa wc ⟨hr.out.1.below h, hr.out.2.1.below h, hr.out.2.2.below h⟩ (hb.trans (h.mono (HSZ.out W hb))))
        have cLi : ∀ W N' H' mb' mw', Hou N' W H' mb' mw' q → Calls Tryz.prog 13 #[.pointer (some ⟨H', 0, none⟩), .string ⟨#[42]⟩, .bool false] W fun e w' => ∃ a c, e = .returned (.slice a M c) ∧ Hid (SRow w' (.slice a M c) q.L) ∧ Below W.heap.size W w' := fun W N' H' mb' mw' hh => (plist_any N' H' mb' mw' q W false hh hin3).mono (by
          rintro e w' ⟨v, rfl, hrow, hb⟩
          rw [if_neg (by decide)] at hrow
          obtain ⟨a, c, rfl⟩ := owns_val hrow
          have hs := hsrow_owns hrow
          rw [hM] at hs ⊢
          exact ⟨a, c, rfl, hs, hb⟩)
        have cNa : ∀ W, Hou N W H mb mw q → Calls Tryz.prog 14 #[.pointer (some ⟨H, 0, none⟩)] W fun e w' => ∃ a c, e = .returned (.slice a M c) ∧ Hid (SRow w' (.slice a M c) q.L) ∧ Below W.heap.size W w' := fun W hh => by
          obtain ⟨h, hS, hR⟩ := hh
          have hLe := hR.L
          refine (hnames_any N H mb mw h W hS (by rw [hLe]; omega)).mono ?_
          rintro e w' ⟨v, rfl, hrow, hb⟩
          rw [hLe] at hrow
          obtain ⟨a, c, rfl⟩ := owns_val hrow
          have hs := hsrow_owns hrow
          rw [hM] at hs ⊢
          exact ⟨a, c, rfl, hs, hb⟩
        have cEq : ∀ W a c a' c', Hid (SRow W (.slice a M c) q.L) → Hid (SRow W (.slice a' M c') q.L) → Calls Tryz.prog 12 #[.slice a M c, .slice a' M c'] W fun e w' => e = .returned (.bool true) ∧ Below W.heap.size W w' := fun W a c a' c' h1 h2 => by
          have := heq_any _ _ q.L q.L W h1.out h2.out (by omega) (by omega)
          rw [decide_eq_true rfl] at this
          exact this
        have hrb : ∀ {W W' : World} {a : Option Addr} {c : Nat}, Hid (SRow W (.slice a M c) q.L) → Below W.heap.size W W' → Hid (SRow W' (.slice a M c) q.L) := fun h hb => Lib.hid (h.out.below hb)
        obtain ⟨TQ, hTQ⟩ : ∃ t, allT q = t := ⟨_, rfl⟩
        have cAq := fun W N' H' mb' mw' hh hn hb => HCA.out W N' H' mb' mw' q hh hF4 hn hb
        rw [hTQ] at cAq
        have hmv : ∀ {W W'}, Below N w1 W → Below W.heap.size W W' → Below N w1 W' := fun h h' => h.trans (h'.mono (HSZ.out _ h))
        have HLD := Lib.hid cLd
        have HRT := Lib.hid cRt
        have HLI := Lib.hid cLi
        have HNA := Lib.hid cNa
        have HEQ := Lib.hid cEq
        have HAQ := Lib.hid cAq
        clear cLd cRt cLi cNa cEq cAq hF4 hM hMW hnx hin3 hm30 hTQ
        go_upto_region 16 with (go_at_call 9; (with_reducible refine cS.mono ?_); rintro e w6 ⟨na, nc, ba, bc, wa, wc, rfl, HR, h6⟩)
        clear cS
        have hb6 := hmv HB5.out h6
        have HH6 := Lib.hid (HH5.out.below h6)
        obtain ⟨w7, hw7⟩ : ∃ w7, w6.alloc (.cells #[.slice na M nc, .slice ba M bc, .slice wa MW wc, .int .i64 nx] 36) = w7 := ⟨_, rfl⟩
        rw [hw7]
        have y7 : Below w6.heap.size w6 w7 := hw7 ▸ (Below.refl _ _).alloc (Nat.le_refl _) _
        have x7 : w7.heap[w6.heap.size]? = some (.cells #[.slice na M nc, .slice ba M bc, .slice wa MW wc, .int .i64 nx] 36 (0, 0)) := hw7 ▸ World.heap_alloc_new w6 _
        have hb7 := hmv hb6 y7
        have HH7 := Lib.hid (HH6.out.below y7)
        have HR7 : Hid (SRow w7 (.slice na M nc) q.L ∧ BRow N w7 (.slice ba M bc) (q.L.map q.c) ∧ SRow w7 (.slice wa MW wc) q.W) := ⟨HR.out.1.below y7, HR.out.2.1.below y7, HR.out.2.2.below y7⟩
        obtain ⟨k0, k1, k2, k3⟩ := four_cells x7
        have hs7 : w6.heap.size < w7.heap.size := (Array.getElem?_eq_some_iff.1 x7).1
        have hc7 : ∀ W, Below w7.heap.size w7 W → W.cell? ⟨w6.heap.size, 0, none⟩ = some (.slice na M nc) ∧ W.cell? ⟨w6.heap.size, 1, none⟩ = some (.slice ba M bc) ∧ W.cell? ⟨w6.heap.size, 2, none⟩ = some (.slice wa MW wc) ∧ W.cell? ⟨w6.heap.size, 3, none⟩ = some (.int .i64 nx) := fun W h => four_cells (below_same h x7)
        have hr7 : ∀ W, Below w7.heap.size w7 W → Hid (SRow W (.slice na M nc) q.L ∧ BRow N W (.slice ba M bc) (q.L.map q.c) ∧ SRow W (.slice wa MW wc) q.W) := fun W h => ⟨HR7.out.1.below h, HR7.out.2.1.below h, HR7.out.2.2.below h⟩
        have cL7 := HLD.out w7 na nc ba bc wa wc HR7 hb7
        clear hw7 x7 y7 HR HH6 hb6 h6
        go_wp2_with (first
          | (go_at_call 10; (with_reducible refine cL7.mono ?_); rintro e w8 ⟨H2, mb2, mw2, rfl, HG8, h8⟩; obtain ⟨e0, e1, e2, e3⟩ := hc7 _ h8; have hb8 := hmv hb7 h8; have cR8 := HRT.out w8 na nc ba bc wa wc (hr7 _ h8) hb8)
          | (go_at_call 11; (with_reducible refine cR8.mono ?_); rintro e w9 ⟨rfl, h9⟩; have hb9 := hmv hb8 h9; have hg9 := HG8.out.below h9; have cA9 := HAQ.out w9 _ H2 mb2 mw2 hg9 (Nat.le_trans h8.size h9.size) hb9; have h89 := h8.trans (h9.mono h8.size); have HG9 := Lib.hid hg9; have HH9 := Lib.hid (HH7.out.below h89); clear hg9)
          | (go_at_call 7; (with_reducible refine cA9.mono ?_); rintro e w10 ⟨rfl, h10⟩; have hb10 := hmv hb9 h10; have HG10 := Lib.hid (HG9.out.below h10); have hh10 := HH9.out.below h10; have cA10 := HAQ.out w10 N H mb mw hh10 (HSZ.out _ hb10) hb10; have HH10 := Lib.hid hh10; clear hh10)
          | (go_at_call 7; (with_reducible refine cA10.mono ?_); rintro e w11 ⟨rfl, h11⟩; have hb11 := hmv hb10 h11; have hg11 := HG10.out.below h11; have cL11 := HLI.out w11 _ H2 mb2 mw2 hg11; have HH11 := Lib.hid (HH10.out.below h11); clear hg11)
          | (go_at_call 13; (with_reducible refine cL11.mono ?_); rintro e w12 ⟨a12, c12, rfl, R12, h12⟩; have hb12 := hmv hb11 h12; have hh12 := HH11.out.below h12; have cN12 := HNA.out w12 hh12; have HH12 := Lib.hid hh12; clear hh12)
          | (go_at_call 14; (with_reducible refine cN12.mono ?_); rintro e w13 ⟨a13, c13, rfl, R13, h13⟩; have hb13 := hmv hb12 h13; have cE13 := HEQ.out w13 a12 c12 a13 c13 (hrb R12 h13) R13; have HH13 := Lib.hid (HH12.out.below h13))
          | (go_at_call 12; (with_reducible refine cE13.mono ?_); rintro e w14 ⟨rfl, h14⟩))
        go_roundg g'
        case measure => omega
        case rel => exact ⟨k + 1, q, by omega, by go_num, HH13.out.below h14, HFD, hmv hb13 h14⟩
    · obtain rfl : k = l.length := by omega
      go_wp2_with fail
      go_ret
      exact ⟨rfl, hbr⟩
end Go.Proofs.YtghchmipoghmiaaGreatDoor
