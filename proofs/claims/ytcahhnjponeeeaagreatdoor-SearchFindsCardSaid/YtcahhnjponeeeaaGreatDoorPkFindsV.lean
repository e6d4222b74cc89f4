/- The walk over the law's sameKey at one key that is read twice: it returns true. No condition beyond those it names. The walk over the law SearchFinds: it answers true. Conditions: the tables, the system's flags, letterboxref.Fine, errors' type and bytealg.MaxLen lie as the program's text lays them. -/
import Derived.Deep.DeepCutAuto
import Derived.StillTailTactics
import Derived.Deep.RegionHeld3
import Derived.Test.YtcahhnjponeeeaaGreatDoorPkTell
import Derived.Test.YtcahhnjponeeeaaGreatDoorPkHeldS
import Derived.Test.YtcahhnjponeeeaaGreatDoorPkSrchN
import Derived.Test.YtcahhnjponeeeaaGreatDoorPkSrchS
import Derived.Test.YtcahhnjponeeeaaGreatDoorPkCmdJ
import Derived.Test.YtcahhnjponeeeaaGreatDoorPkRSetC
import Derived.Test.YtcahhnjponeeeaaGreatDoorPkKeyS
import Derived.Test.YtcahhnjponeeeaaGreatDoorPkFndC
namespace Go.Proofs.YtcahhnjponeeeaaGreatDoor
open Go.RowKit Go.Shelf Go.Sort
set_option linter.unusedSimpArgs false
theorem rgr_of {W : World} {ok : Nat → Prop} {sa : Option Addr} {sc : Nat} {set : List Rg} (h2 : set.length ≤ sc) (h3 : sc ≤ 9223372036854775807) (h4 : sa = none → sc = 0)
    (h5 : ∀ (j : Nat) (r : Rg), set[j]? = some r → ∃ g off, sa = some ⟨g, off, none⟩ ∧ ok g ∧ g < W.heap.size ∧ W.cell? ⟨g, off + j * 2, none⟩ = some (.int .i64 r.1) ∧ W.cell? ⟨g, off + j * 2 + 1, none⟩ = some (.int .i64 r.2)) : RgRow W (.slice sa set.length sc) set := by
  refine ⟨sa, sc, rfl, h2, ⟨h3, h4⟩, fun j r hj => ?_⟩
  obtain ⟨g, off, e, -, hl, c0, c1⟩ := h5 j r hj
  exact ⟨g, off, e, hl, c0, c1⟩
theorem sixC' {w : World} {g : Nat} {a b c d e f : Value} {T : TypeId} (h : w.heap[g]? = some (.cells #[a, b, c, d, e, f] T (0, 0))) : w.cell? ⟨g, 0, none⟩ = some a ∧ w.cell? ⟨g, 1, none⟩ = some b ∧ w.cell? ⟨g, 2, none⟩ = some c ∧ w.cell? ⟨g, 3, none⟩ = some d ∧ w.cell? ⟨g, 4, none⟩ = some e ∧ w.cell? ⟨g, 5, none⟩ = some f := by
  refine ⟨?_, ?_, ?_, ?_, ?_, ?_⟩ <;> (rw [Lib.cell_of_heap h]; rfl)
structure SamW (w w1 : World) (a b c d e f a' b' c' d' e' f' : Value) : Prop where
  below : Below w.heap.size w w1
  k : w1.heap[w.heap.size]? = some (.cells #[a, b, c, d, e, f] 32 (0, 0))
  l : w1.heap[w.heap.size + 1]? = some (.cells #[a', b', c', d', e', f'] 32 (0, 0))
theorem samW_at (w : World) (a b c d e f a' b' c' d' e' f' : Value) : SamW w ((w.alloc (.cells #[a, b, c, d, e, f] 32)).alloc (.cells #[a', b', c', d', e', f'] 32)) a b c d e f a' b' c' d' e' f' := by
  have s1 := alloc_size w (.cells #[a, b, c, d, e, f] 32)
  have k1 := World.heap_alloc_new w (.cells #[a, b, c, d, e, f] 32)
  have b1 := (Below.refl w.heap.size w).alloc (Nat.le_refl _) (.cells #[a, b, c, d, e, f] 32)
  generalize w.alloc (.cells #[a, b, c, d, e, f] 32) = w1 at *
  have l2 := World.heap_alloc_new w1 (.cells #[a', b', c', d', e', f'] 32)
  have k2 := alloc_same (x := .cells #[a', b', c', d', e', f'] 32) k1
  have b2 := b1.alloc (by omega) (.cells #[a', b', c', d', e', f'] 32)
  rw [s1] at l2
  exact ⟨b2, k2, l2⟩
set_option linter.constructorNameAsVariable false in
set_option maxRecDepth 100000 in
set_option maxHeartbeats 16000000 in
theorem sameKey_walk (code : Int) (name text : List UInt8) (n : Int) (set : List Rg) (keys : List KeyP) (sa ka sa2 ka2 : Option Addr) (sc kc sc2 kc2 : Nat) (vs vs2 : Nat → List Value) (w : World)
    (hs : RgRow w (.slice sa set.length sc) set) (hs2 : RgRow w (.slice sa2 set.length sc2) set) (hkl : keys.length ≤ 9223372036854775807)
    (hcell : ∀ (j : Nat) (t : KeyP), keys[j]? = some t → ∃ b off, ka = some ⟨b, off, none⟩ ∧ b < w.heap.size ∧ ∀ (i : Nat) (u : Value), (vs j)[i]? = some u → w.cell? ⟨b, off + j * 6 + i, none⟩ = some u)
    (hcell2 : ∀ (j : Nat) (t : KeyP), keys[j]? = some t → ∃ b off, ka2 = some ⟨b, off, none⟩ ∧ b < w.heap.size ∧ ∀ (i : Nat) (u : Value), (vs2 j)[i]? = some u → w.cell? ⟨b, off + j * 6 + i, none⟩ = some u)
    (h6 : ∀ (j : Nat) (t : KeyP), keys[j]? = some t → ∃ a b c d e f, vs j = [a, b, c, d, e, f]) (h62 : ∀ (j : Nat) (t : KeyP), keys[j]? = some t → ∃ a b c d e f, vs2 j = [a, b, c, d, e, f])
    (ih : ∀ (j : Nat) (t : KeyP), keys[j]? = some t → ∀ W, Below w.heap.size w W → Calls Tryz.prog 9 #[.agg (vs j).toArray, .agg (vs2 j).toArray] W fun e w' => e = .returned (.bool true) ∧ Below W.heap.size W w') :
    Calls Tryz.prog 9 #[.agg #[.int .i64 code, .string ⟨name.toArray⟩, .string ⟨text.toArray⟩, .int .i64 n, .slice sa set.length sc, .slice ka keys.length kc], .agg #[.int .i64 code, .string ⟨name.toArray⟩, .string ⟨text.toArray⟩, .int .i64 n, .slice sa2 set.length sc2, .slice ka2 keys.length kc2]] w fun e w' => e = .returned (.bool true) ∧ Below w.heap.size w w' := by
  have hw := samW_at w (.int .i64 code) (.string ⟨name.toArray⟩) (.string ⟨text.toArray⟩) (.int .i64 n) (.slice sa set.length sc) (.slice ka keys.length kc) (.int .i64 code) (.string ⟨name.toArray⟩) (.string ⟨text.toArray⟩) (.int .i64 n) (.slice sa2 set.length sc2) (.slice ka2 keys.length kc2)
  have cR := sameR_any _ _ set _ (hs.below hw.below) (hs2.below hw.below)
  obtain ⟨k0, k1, k2, k3, k4, k5⟩ := sixC' hw.k
  obtain ⟨l0, l1, l2, l3, l4, l5⟩ := sixC' hw.l
  have Y := Lib.hid hw.below
  have KK := Lib.hid hw.k
  have LL := Lib.hid hw.l
  have HC := Lib.hid hcell
  have HC2 := Lib.hid hcell2
  have H6 := Lib.hid h6
  have H62 := Lib.hid h62
  have IH := Lib.hid ih
  clear hw hcell hcell2 h6 h62 ih hs hs2
  go_enter Tryz.func9, Tryz.ntmps9
  go_upto_region 1 with fail
  generalize ((w.alloc (.cells #[.int .i64 code, .string ⟨name.toArray⟩, .string ⟨text.toArray⟩, .int .i64 n, .slice sa set.length sc, .slice ka keys.length kc] 32)).alloc (.cells #[.int .i64 code, .string ⟨name.toArray⟩, .string ⟨text.toArray⟩, .int .i64 n, .slice sa2 set.length sc2, .slice ka2 keys.length kc2] 32)) = w1 at *
  go_wp2_with (go_at_call 19; go_loud (((with_reducible refine cR.mono ?_); rintro e w2 ⟨rfl, h⟩; have y := Y.out.trans (h.mono Y.out.size); clear k0 k1 k2 k3 k4 k5 l0 l1 l2 l3 l4 l5; have hk2 := below_same h KK.out; have hl2 := below_same h LL.out; obtain ⟨k0, k1, k2, k3, k4, k5⟩ := sixC' hk2; obtain ⟨l0, l1, l2, l3, l4, l5⟩ := sixC' hl2)))
  have K2 := Lib.hid hk2
  have L2 := Lib.hid hl2
  have Y2 := Lib.hid y
  clear k0 k1 k2 k3 k4 k5 l0 l1 l2 l3 l4 l5 hk2 hl2 y
  go_loopg [5] keys.length (fun g s5 wr => ∃ k : Nat, k + g = keys.length ∧ s5 = .int .i64 (k : Int) ∧ Below w2.heap.size w2 wr)
  case atStart => exact ⟨0, by omega, rfl, Below.refl _ _⟩
  case round =>
    obtain ⟨k, hk, rfl, hbr⟩ := hrel
    obtain ⟨-, -, -, -, -, k5⟩ := sixC' (below_same hbr K2.out)
    obtain ⟨-, -, -, -, -, l5⟩ := sixC' (below_same hbr L2.out)
    by_cases hlt : k < keys.length
    · obtain ⟨g', rfl⟩ : ∃ g', gk = g' + 1 := ⟨gk - 1, by omega⟩
      obtain ⟨r, hr⟩ : ∃ r, keys[k]? = some r := ⟨keys[k], List.getElem?_eq_getElem hlt⟩
      obtain ⟨b, off, rfl, hb, c0⟩ := HC.out k r hr
      obtain ⟨b2, off2, rfl, hb2, e0⟩ := HC2.out k r hr
      obtain ⟨z0, z1, z2, z3, z4, z5, hz⟩ := H6.out k r hr
      obtain ⟨x0, x1, x2, x3, x4, x5, hx⟩ := H62.out k r hr
      have cI := IH.out k r hr
      rw [hz, hx] at cI
      rw [hz] at c0
      rw [hx] at e0
      have hbw := Y2.out.trans (hbr.mono Y2.out.size)
      have d0 := (hbw.cell (p := ⟨b, off + k * 6, none⟩) hb).trans (c0 0 _ rfl)
      have d1 := (hbw.cell (p := ⟨b, off + k * 6 + 1, none⟩) hb).trans (c0 1 _ rfl)
      have d2 := (hbw.cell (p := ⟨b, off + k * 6 + 2, none⟩) hb).trans (c0 2 _ rfl)
      have d3 := (hbw.cell (p := ⟨b, off + k * 6 + 3, none⟩) hb).trans (c0 3 _ rfl)
      have d4 := (hbw.cell (p := ⟨b, off + k * 6 + 4, none⟩) hb).trans (c0 4 _ rfl)
      have d5 := (hbw.cell (p := ⟨b, off + k * 6 + 5, none⟩) hb).trans (c0 5 _ rfl)
      have f0 := (hbw.cell (p := ⟨b2, off2 + k * 6, none⟩) hb2).trans (e0 0 _ rfl)
      have f1 := (hbw.cell (p := ⟨b2, off2 + k * 6 + 1, none⟩) hb2).trans (e0 1 _ rfl)
      have f2 := (hbw.cell (p := ⟨b2, off2 + k * 6 + 2, none⟩) hb2).trans (e0 2 _ rfl)
      have f3 := (hbw.cell (p := ⟨b2, off2 + k * 6 + 3, none⟩) hb2).trans (e0 3 _ rfl)
      have f4 := (hbw.cell (p := ⟨b2, off2 + k * 6 + 4, none⟩) hb2).trans (e0 4 _ rfl)
      have f5 := (hbw.cell (p := ⟨b2, off2 + k * 6 + 5, none⟩) hb2).trans (e0 5 _ rfl)
      have hltz : (k : Int) < (keys.length : Int) := by omega
      clear c0 e0 hz hx hr
      go_upto_region 6 with fail
      have yd := hbr.drew
      have cI1 := cI _ (Y2.out.trans (yd.mono Y2.out.size))
      go_still_tail 10, (by kernel_rfl)
      change wpList _ _ _ _ _ wr.drew
      go_wp2_with (go_at_call 9; go_loud (((with_reducible refine cI1.mono ?_); rintro e w3 ⟨rfl, h⟩; have y3 := yd.trans (h.mono yd.size))))
      go_roundg g'
      case measure => omega
      case rel => exact ⟨k + 1, by omega, by go_num, y3⟩
    · go_wp2_with fail
      go_ret
      exact ⟨rfl, Y2.out.trans (hbr.mono Y2.out.size)⟩
/-- sameKey at one key that is read twice -/
theorem sameKey_any {W0 : World} {ok ok2 : Nat → Prop} {cs cs2 : List Value} {k : KeyP} (h : KeyC W0 ok cs k) (h' : KeyC W0 ok2 cs2 k) : ∀ w, Below W0.heap.size W0 w →
    Calls Tryz.prog 9 #[.agg cs.toArray, .agg cs2.toArray] w fun e w' => e = .returned (.bool true) ∧ Below w.heap.size w w' := by
  induction h generalizing cs2 with
  | mk code name text n set keys sa ka sc kc vs h1 h2 h3 h4 h5 h6 h7 h8 h9 hsub ih =>
    intro w hb
    cases h' with
    | mk _ _ _ _ _ _ sa2 ka2 sc2 kc2 vs2 g1 g2 g3 g4 g5 g6 g7 g8 g9 gsub =>
      refine sameKey_walk code name text n set keys sa ka sa2 ka2 sc kc sc2 kc2 vs vs2 w ((rgr_of h2 h3 h4 h5).below hb) ((rgr_of g2 g3 g4 g5).below hb) (Nat.le_trans h7 h8) (fun j t hj => ?_) (fun j t hj => ?_) (fun j t hj => ?_) (fun j t hj => ?_) (fun j t hj W hW => ih j t hj (gsub j t hj) W (hb.trans (hW.mono hb.size)))
      · obtain ⟨g, off, e, -, hg, hc⟩ := h9 j t hj
        exact ⟨g, off, e, Nat.lt_of_lt_of_le hg hb.size, fun i u hu => (hb.cell (p := ⟨g, off + j * 6 + i, none⟩) hg).trans (hc i u hu)⟩
      · obtain ⟨g, off, e, -, hg, hc⟩ := g9 j t hj
        exact ⟨g, off, e, Nat.lt_of_lt_of_le hg hb.size, fun i u hu => (hb.cell (p := ⟨g, off + j * 6 + i, none⟩) hg).trans (hc i u hu)⟩
      · obtain ⟨_, _, _, _, _, _, _, _, _, _, e⟩ := (hsub j t hj).six
        exact ⟨_, _, _, _, _, _, e⟩
      · obtain ⟨_, _, _, _, _, _, _, _, _, _, e⟩ := (gsub j t hj).six
        exact ⟨_, _, _, _, _, _, e⟩
end Go.Proofs.YtcahhnjponeeeaaGreatDoor
namespace Go.Proofs.YtcahhnjponeeeaaGreatDoor
open Go.RowKit Go.Shelf Go.Sort
set_option linter.unusedSimpArgs false
set_option maxRecDepth 100000 in
set_option maxHeartbeats 4000000 in
theorem parts_any (s : List UInt8) (w : World) (hF : FineG w) (hG : StrG w) (hs : s.length ≤ 9223372036854775807) :
    Calls Tryz.prog 4 #[.string ⟨s.toArray⟩] w fun e w' => ∃ (a : Option Addr) (c : Nat) (l : List Wd) (b : Bool), e = .returned (.tuple #[.slice a l.length c, .bool b]) ∧ Hid (WordsL w' (fun j => w.heap.size ≤ j) (.slice a l.length c) l) ∧ Below w.heap.size w w' := by
  have ts := text_size s
  by_cases h6 : (600 : Int) < (s.length : Int)
  · go_enter Tryz.func4, Tryz.ntmps4
    go_wp2_with fail
    go_ret2
    exact ⟨none, 0, [], false, rfl, Lib.hid (wordsL_nil _ _), Below.refl _ _⟩
  · have hc1 : (⟨#[97, 32, 98, 32]⟩ : ByteArray) ++ ⟨s.toArray⟩ = ⟨([97, 32, 98, 32] ++ s).toArray⟩ := text_cat [97, 32, 98, 32] s
    have hc2 : (⟨([97, 32, 98, 32] ++ s).toArray⟩ : ByteArray) ++ ⟨#[13, 10]⟩ = ⟨(([97, 32, 98, 32] ++ s) ++ [13, 10]).toArray⟩ := text_cat ([97, 32, 98, 32] ++ s) [13, 10]
    have hl1 : ([97, 32, 98, 32] ++ s).length = 4 + s.length := by simp; omega
    have hl2 : (([97, 32, 98, 32] ++ s) ++ [13, 10]).length = 6 + s.length := by rw [List.length_append, hl1]; simp; omega
    obtain ⟨S1, hS1⟩ : ∃ S1, [97, 32, 98, 32] ++ s = S1 := ⟨_, rfl⟩
    rw [hS1] at hc1 hc2 hl1 hl2
    obtain ⟨S2, hS2⟩ : ∃ S2, S1 ++ [13, 10] = S2 := ⟨_, rfl⟩
    rw [hS2] at hc2 hl2
    have ts1 := text_size S1
    have cP := parseC_any S2 w (by omega) hF hG
    unfold ParsedC at cP
    have HF := Lib.hid hF
    clear hS1 hS2 hF hG
    go_enter Tryz.func4, Tryz.ntmps4
    go_upto_region 4 with (go_at_call 12; go_loud (((with_reducible refine cP.mono ?_); rintro e w1 ⟨t1, t2, a, l, c, fe, fp, rfl, hw, hb⟩)))
    have y2 : Below w.heap.size w ((w1.alloc (.cells #[.string t1, .string t2, .slice a l.length c] 48)).alloc (.cells #[.int .i64 fe, .int .i64 fp] 50)) := (hb.alloc hb.size _).alloc (by rw [alloc_size]; exact Nat.le_succ_of_le hb.size) _
    have b1 : ((w1.alloc (.cells #[.string t1, .string t2, .slice a l.length c] 48)).alloc (.cells #[.int .i64 fe, .int .i64 fp] 50)).heap[w1.heap.size]? = _ := alloc_same (x := .cells #[.int .i64 fe, .int .i64 fp] 50) (World.heap_alloc_new w1 (.cells #[.string t1, .string t2, .slice a l.length c] 48))
    have b2 := World.heap_alloc_new (w1.alloc (.cells #[.string t1, .string t2, .slice a l.length c] 48)) (.cells #[.int .i64 fe, .int .i64 fp] 50)
    have hw2 := Lib.hid (hw.out.under (((Below.refl w1.heap.size w1).alloc (Nat.le_refl _) (.cells #[.string t1, .string t2, .slice a l.length c] 48)).alloc (by rw [alloc_size]; exact Nat.le_succ _) (.cells #[.int .i64 fe, .int .i64 fp] 50)))
    rw [alloc_size] at b2
    generalize (w1.alloc (.cells #[.string t1, .string t2, .slice a l.length c] 48)).alloc (.cells #[.int .i64 fe, .int .i64 fp] 50) = w2 at *
    obtain ⟨k0, k1, k2⟩ := three_cells b1
    obtain ⟨m0, m1⟩ := two_cells b2
    obtain ⟨f0, f1⟩ := FineG.below HF.out y2
    have Y2 := Lib.hid y2
    clear b1 b2 y2 hw hb
    by_cases he : fe = 0
    · subst he
      by_cases hp : fp = -1
      · subst hp
        go_region_held3 (fun W => W.cell? ⟨w1.heap.size, 2, none⟩ = some (.slice a l.length c) ∧ W.cell? ⟨w1.heap.size + 1, 0, none⟩ = some (.int .i64 0) ∧ W.cell? ⟨w1.heap.size + 1, 1, none⟩ = some (.int .i64 (-1)) ∧ W.cell? ⟨0, 0, none⟩ = some (.int .i64 0) ∧ W.cell? ⟨0, 1, none⟩ = some (.int .i64 (-1)))
          (exact ⟨k2, m0, m1, f0, f1⟩)
          (fail)
        go_wp2_with fail
        go_ret2
        exact ⟨a, c, l, _, rfl, Lib.hid (hw2.out.under (Below.refl w2.heap.size w2).drew), Y2.out.trans ((Below.refl w2.heap.size w2).drew.mono Y2.out.size)⟩
      · have hp1 : (fp == -1) = false := by rw [beq_eq_false_iff_ne]; exact hp
        have hp2 : decide (fp = -1) = false := decide_eq_false hp
        go_region_held3 (fun W => W.cell? ⟨w1.heap.size, 2, none⟩ = some (.slice a l.length c) ∧ W.cell? ⟨w1.heap.size + 1, 0, none⟩ = some (.int .i64 0) ∧ W.cell? ⟨w1.heap.size + 1, 1, none⟩ = some (.int .i64 fp) ∧ W.cell? ⟨0, 0, none⟩ = some (.int .i64 0) ∧ W.cell? ⟨0, 1, none⟩ = some (.int .i64 (-1)))
          (exact ⟨k2, m0, m1, f0, f1⟩)
          (fail)
        go_wp2_with fail
        go_ret2
        exact ⟨a, c, l, _, rfl, Lib.hid (hw2.out.under (Below.refl w2.heap.size w2).drew), Y2.out.trans ((Below.refl w2.heap.size w2).drew.mono Y2.out.size)⟩
    · have he1 : (fe == 0) = false := by rw [beq_eq_false_iff_ne]; exact he
      have he2 : decide (fe = 0) = false := decide_eq_false he
      go_region_held3 (fun W => W.cell? ⟨w1.heap.size, 2, none⟩ = some (.slice a l.length c) ∧ W.cell? ⟨w1.heap.size + 1, 0, none⟩ = some (.int .i64 fe) ∧ W.cell? ⟨w1.heap.size + 1, 1, none⟩ = some (.int .i64 fp) ∧ W.cell? ⟨0, 0, none⟩ = some (.int .i64 0) ∧ W.cell? ⟨0, 1, none⟩ = some (.int .i64 (-1)))
        (exact ⟨k2, m0, m1, f0, f1⟩)
        (fail)
      go_wp2_with fail
      go_ret2
      exact ⟨a, c, l, _, rfl, Lib.hid (hw2.out.under (Below.refl w2.heap.size w2).drew), Y2.out.trans ((Below.refl w2.heap.size w2).drew.mono Y2.out.size)⟩
set_option maxRecDepth 100000 in
set_option maxHeartbeats 4000000 in
theorem letter_any (fv : Value) (flags : List (List UInt8)) (uid day : Int) (text : List UInt8) (w : World) (hf : SRow w fv flags) (hl : ∀ t ∈ flags, t.length ≤ 9223372036854775807) (ht : text.length ≤ 9223372036854775807) :
    Calls Tryz.prog 5 #[.agg #[.int .i64 uid, fv, .int .i64 day, .string ⟨text.toArray⟩]] w fun e w' => e = .returned (.bool (textsF flags && decide (text.length ≤ 1500))) ∧ Below w.heap.size w w' := by
  have ts := text_size text
  have y1 := (Below.refl w.heap.size w).alloc (Nat.le_refl _) (.cells #[.int .i64 uid, fv, .int .i64 day, .string ⟨text.toArray⟩] 24)
  have z1 := World.heap_alloc_new w (.cells #[.int .i64 uid, fv, .int .i64 day, .string ⟨text.toArray⟩] 24)
  obtain ⟨w1, hw1⟩ : ∃ w1, w.alloc (.cells #[.int .i64 uid, fv, .int .i64 day, .string ⟨text.toArray⟩] 24) = w1 := ⟨_, rfl⟩
  rw [hw1] at y1 z1
  have HW := Lib.hid hw1
  have cT := ltexts_any fv flags w1 (hf.below y1) hl
  obtain ⟨l0, l1, l2, l3⟩ := four_cells z1
  have Z := Lib.hid z1
  have Y := Lib.hid y1
  clear hw1 z1 y1 hf hl
  have hd : decide (text.length ≤ 1500) = decide ((text.length : Int) ≤ 1500) := by
    by_cases h : text.length ≤ 1500
    · rw [decide_eq_true h, decide_eq_true (by omega)]
    · rw [decide_eq_false h, decide_eq_false (by omega)]
  rw [hd]
  clear hd
  cases hT : textsF flags with
  | true =>
    rw [hT] at cT
    rw [Bool.true_and]
    go_enter Tryz.func5, Tryz.ntmps5
    go_upto_region 1 with fail
    rw [show w.alloc (.cells #[.int .i64 uid, fv, .int .i64 day, .string ⟨text.toArray⟩] 24) = w1 from HW.out]
    go_wp2_with (go_at_call 13; go_loud (((with_reducible refine cT.mono ?_); rintro e w2 ⟨rfl, h⟩; have y := Y.out.trans (h.mono Y.out.size); clear l0 l1 l2 l3; obtain ⟨l0, l1, l2, l3⟩ := four_cells (below_same h Z.out))))
    go_ret
    exact ⟨rfl, y⟩
  | false =>
    rw [hT] at cT
    rw [Bool.false_and]
    go_enter Tryz.func5, Tryz.ntmps5
    go_upto_region 1 with fail
    rw [show w.alloc (.cells #[.int .i64 uid, fv, .int .i64 day, .string ⟨text.toArray⟩] 24) = w1 from HW.out]
    go_wp2_with (go_at_call 13; go_loud (((with_reducible refine cT.mono ?_); rintro e w2 ⟨rfl, h⟩; have y := Y.out.trans (h.mono Y.out.size); clear l0 l1 l2 l3; obtain ⟨l0, l1, l2, l3⟩ := four_cells (below_same h Z.out))))
    go_ret
    exact ⟨rfl, y⟩
end Go.Proofs.YtcahhnjponeeeaaGreatDoor
namespace Go.Proofs.YtcahhnjponeeeaaGreatDoor
open Go.RowKit Go.Shelf Go.Sort
set_option linter.unusedSimpArgs false
theorem pkeys_bad {l : List Wd} {E : Nat} (hp : parseK l = .error E) (a : Option Addr) (c : Nat) (w : World) (hw : WordsL w (fun j => j < w.heap.size) (.slice a l.length c) l) (hS : StrG w) (hM : MaxG w) :
    Calls Tryz.prog 6 #[.slice a l.length c] w fun e w' => e = .returned (.tuple #[.agg #[.int .i64 0, .string ⟨#[]⟩, .string ⟨#[]⟩, .int .i64 0, .slice none 0 0, .slice none 0 0], .int .i64 (E : Int)]) ∧ 0 < E ∧ Below w.heap.size w w' :=
  (parseKeys_any a c l w hw hS hM).mono (by
    intro e w' h
    unfold PKeysS at h
    rw [hp] at h
    exact h)
theorem pkeys_good {l : List Wd} {k : KeyP} (hp : parseK l = .ok k) (a : Option Addr) (c : Nat) (w : World) (hw : WordsL w (fun j => j < w.heap.size) (.slice a l.length c) l) (hS : StrG w) (hM : MaxG w) :
    Calls Tryz.prog 6 #[.slice a l.length c] w fun e w' => ∃ (code : Int) (name text : List UInt8) (n : Int) (set : List Rg) (keys : List KeyP) (sa ka : Option Addr) (sc kc : Nat),
      e = .returned (.tuple #[.agg #[.int .i64 code, .string ⟨name.toArray⟩, .string ⟨text.toArray⟩, .int .i64 n, .slice sa set.length sc, .slice ka keys.length kc], .int .i64 0]) ∧ Hid (KeyC w' (fun j => w.heap.size ≤ j) [.int .i64 code, .string ⟨name.toArray⟩, .string ⟨text.toArray⟩, .int .i64 n, .slice sa set.length sc, .slice ka keys.length kc] k) ∧ Below w.heap.size w w' :=
  (parseKeys_any a c l w hw hS hM).mono (by
    intro e w' h
    unfold PKeysS at h
    rw [hp] at h
    obtain ⟨cs, h1, h2, h3⟩ := h
    obtain ⟨code, name, text, n, set, keys, sa, ka, sc, kc, rfl⟩ := h2.out.six
    exact ⟨code, name, text, n, set, keys, sa, ka, sc, kc, h1, h2, h3⟩)
theorem pbad' {l : List Wd} {E : Nat} (hp : parseK l = .error E) (v : Value) (w : World) (h : ReadsK w w.heap.size v l) (hG : SrG w) : Calls Tryz.prog 7 #[v] w fun e w' => e = .returned (.tuple #[.agg #[.int .i64 0, .string ⟨#[]⟩, .string ⟨#[]⟩, .int .i64 0, .slice none 0 0, .slice none 0 0], .iface 33 (.int .i64 (E : Int))]) ∧ Below w.heap.size w w' := parse_bad hp v w h hG
set_option linter.constructorNameAsVariable false in
set_option maxRecDepth 100000 in
set_option maxHeartbeats 16000000 in
theorem finds_any (s : List UInt8) (fv : Value) (flags : List (List UInt8)) (uid day : Int) (text : List UInt8) (which many greatest : Int) (w : World) (hs : s.length ≤ 9223372036854775807) (hf : SRow w fv flags) (hl : ∀ t ∈ flags, t.length ≤ 9223372036854775807) (ht : text.length ≤ 9223372036854775807) (hG : SrG w) (hF : FineG w) :
    Calls Tryz.prog 3 #[.string ⟨s.toArray⟩, .agg #[.int .i64 uid, fv, .int .i64 day, .string ⟨text.toArray⟩], .int .i64 which, .int .i64 many, .int .i64 greatest] w fun e w' => e = .returned (.bool true) ∧ Below w.heap.size w w' := by
  have y1 := (Below.refl w.heap.size w).alloc (Nat.le_refl _) (.cells #[.int .i64 uid, fv, .int .i64 day, .string ⟨text.toArray⟩] 24)
  have z1 := World.heap_alloc_new w (.cells #[.int .i64 uid, fv, .int .i64 day, .string ⟨text.toArray⟩] 24)
  obtain ⟨w1, hw1⟩ : ∃ w1, w.alloc (.cells #[.int .i64 uid, fv, .int .i64 day, .string ⟨text.toArray⟩] 24) = w1 := ⟨_, rfl⟩
  rw [hw1] at y1 z1
  have HW := Lib.hid hw1
  have KG := Lib.hid (show ∀ W, Below w.heap.size w W → SrG W ∧ FineG W ∧ SRow W fv flags from fun W h => ⟨hG.below h, FineG.below hF h, hf.below h⟩)
  have cP := parts_any s w1 (FineG.below hF y1) (hG.below y1).str hs
  have Z1 := Lib.hid z1
  have Y1 := Lib.hid y1
  have HLL := Lib.hid hl
  have HTL := Lib.hid ht
  clear hw1 z1 y1 hG hF hf hl ht
  go_enter Tryz.func3, Tryz.ntmps3
  go_upto_region 1 with fail
  rw [show w.alloc (.cells #[.int .i64 uid, fv, .int .i64 day, .string ⟨text.toArray⟩] 24) = w1 from HW.out]
  go_upto_region 2 with (go_at_call 4; go_loud (((with_reducible refine cP.mono ?_); rintro e w2 ⟨a, c, l, b, rfl, hw, hb2⟩)))
  have Y2 := Lib.hid (Y1.out.trans (hb2.mono Y1.out.size))
  have hz2 := below_same hb2 Z1.out
  obtain ⟨l0, l1, l2, l3⟩ := four_cells hz2
  have Z2 := Lib.hid hz2
  clear hz2 hb2 cP
  cases b with
  | false =>
    go_wp2_with fail
    go_ret
    exact ⟨rfl, Y2.out⟩
  | true =>
    have cL := letter_any fv flags uid day text w2 (KG.out _ Y2.out).2.2 HLL.out HTL.out
    cases hL : (textsF flags && decide (text.length ≤ 1500)) with
    | false =>
      rw [hL] at cL
      go_wp2_with (go_at_call 5; go_loud (((with_reducible refine cL.mono ?_); rintro e w3 ⟨rfl, hb3⟩)))
      go_ret
      exact ⟨rfl, Y2.out.trans (hb3.mono Y2.out.size)⟩
    | true =>
      rw [hL] at cL
      have HLE : Hid (flags.length ≤ 1000000 ∧ text.length ≤ 9000) := Lib.hid (by
        rw [Bool.and_eq_true, decide_eq_true_eq] at hL
        obtain ⟨h1, h2⟩ := hL
        unfold textsF at h1
        rw [Bool.and_eq_true, decide_eq_true_eq] at h1
        omega)
      clear hL
      go_upto_region 4 with (go_at_call 5; go_loud (((with_reducible refine cL.mono ?_); rintro e w3 ⟨rfl, hb3⟩)))
      have Y3 := Lib.hid (Y2.out.trans (hb3.mono Y2.out.size))
      have Z3 := Lib.hid (below_same hb3 Z2.out)
      have hw3 : WordsL w3 (fun j => j < w3.heap.size) (.slice a l.length c) l := (hw.out.under hb3).keep (Nat.le_refl _) (fun _ _ _ => rfl) (fun j _ hj => hj)
      have HW3 := Lib.hid hw3
      clear l0 l1 l2 l3 hb3 hw cL
      cases hp : parseK l with
      | error E =>
        have cK := pkeys_bad hp a c w3 hw3 (KG.out _ Y3.out).1.str (KG.out _ Y3.out).1.max
        have HP := Lib.hid hp
        clear hw3 hp
        go_upto_region 5 with (go_at_call 6; go_loud (((with_reducible refine cK.mono ?_); rintro e w4 ⟨rfl, hE, hb4⟩)))
        have ya := (Below.refl w4.heap.size w4).alloc (Nat.le_refl _) (.cells #[.int .i64 0, .string ⟨#[]⟩, .string ⟨#[]⟩, .int .i64 0, .slice none 0 0, .slice none 0 0] 32)
        have za := World.heap_alloc_new w4 (.cells #[.int .i64 0, .string ⟨#[]⟩, .string ⟨#[]⟩, .int .i64 0, .slice none 0 0, .slice none 0 0] 32)
        generalize w4.alloc (.cells #[.int .i64 0, .string ⟨#[]⟩, .string ⟨#[]⟩, .int .i64 0, .slice none 0 0, .slice none 0 0] 32) = wa at *
        have hb3a := hb4.trans (ya.mono hb4.size)
        have YA := Lib.hid (Y3.out.trans (hb3a.mono Y3.out.size))
        have ZA := Lib.hid za
        have cS := pbad' HP.out (.slice a l.length c) wa (HW3.out.under hb3a).readsK (KG.out _ YA.out).1
        clear hb4 ya za hb3a cK
        go_upto_region 6 with (go_at_call 7; go_loud (((with_reducible refine cS.mono ?_); rintro e w5 ⟨rfl, hb5⟩)))
        have yb := (Below.refl w5.heap.size w5).alloc (Nat.le_refl _) (.cells #[.int .i64 0, .string ⟨#[]⟩, .string ⟨#[]⟩, .int .i64 0, .slice none 0 0, .slice none 0 0] 32)
        have zb := World.heap_alloc_new w5 (.cells #[.int .i64 0, .string ⟨#[]⟩, .string ⟨#[]⟩, .int .i64 0, .slice none 0 0, .slice none 0 0] 32)
        generalize w5.alloc (.cells #[.int .i64 0, .string ⟨#[]⟩, .string ⟨#[]⟩, .int .i64 0, .slice none 0 0, .slice none 0 0] 32) = wb at *
        have hbab := hb5.trans (yb.mono hb5.size)
        have YB := Lib.hid (YA.out.trans (hbab.mono YA.out.size))
        have ZB := Lib.hid zb
        have ZA2 := Lib.hid (below_same hbab ZA.out)
        clear hb5 yb zb hbab cS
        have cB := fun W hW => bare_err (E : Int) (E : Int) W hW
        have hEE : ((E : Int) == (E : Int)) = true := by simp
        rw [hEE] at cB
        have cQ := fun W => sameKey_any (keyC_leaf W (fun _ => True) 0 [] [] 0 (by decide) (by decide)) (keyC_leaf W (fun _ => True) 0 [] [] 0 (by decide) (by decide)) W (Below.refl _ _)
        have cB1 := cB wb (KG.out _ YB.out).1.err
        have e2 : ¬ ((E : Int) = 0) := by omega
        have e3 : ((E : Int) == 0) = false := by rw [beq_eq_false_iff_ne]; exact e2
        have e4 : ((E : Int) != 0) = true := by rw [bne_iff_ne]; exact e2
        clear hEE
        go_upto_region 7 with (first
          | (go_at_call 8; go_loud (((with_reducible refine cB1.mono ?_); rintro e w6 ⟨rfl, hb6⟩; have hza := below_same hb6 ZA2.out; have hzb := below_same hb6 ZB.out; obtain ⟨a0, a1, a2, a3, a4, a5⟩ := six_cells' hza; obtain ⟨q0, q1, q2, q3, q4, q5⟩ := six_cells' hzb; have cQ1 := cQ w6)))
          | (go_at_call 9; go_loud (((with_reducible refine cQ1.mono ?_); rintro e w7 ⟨rfl, hb7⟩))))
        have Y7 := Lib.hid ((YB.out.trans (hb6.mono YB.out.size)).trans (hb7.mono (YB.out.trans (hb6.mono YB.out.size)).size))
        have ZA7 := Lib.hid (below_same hb7 hza)
        have ZB7 := Lib.hid (below_same hb7 hzb)
        clear a0 a1 a2 a3 a4 a5 q0 q1 q2 q3 q4 q5 hza hzb hb6 hb7 cB1 cQ1
        have cB1 := cB w7 (KG.out _ Y7.out).1.err
        go_wp2_with (first
          | (go_at_call 8; go_loud (((with_reducible refine cB1.mono ?_); rintro e w8 ⟨rfl, hb8⟩; obtain ⟨a0, a1, a2, a3, a4, a5⟩ := six_cells' (below_same hb8 ZA7.out); obtain ⟨q0, q1, q2, q3, q4, q5⟩ := six_cells' (below_same hb8 ZB7.out); have cQ1 := cQ w8)))
          | (go_at_call 9; go_loud (((with_reducible refine cQ1.mono ?_); rintro e w9 ⟨rfl, hb9⟩))))
        go_ret
        exact ⟨rfl, (Y7.out.trans (hb8.mono Y7.out.size)).trans (hb9.mono (Y7.out.trans (hb8.mono Y7.out.size)).size)⟩
      | ok k =>
        have cK := pkeys_good hp a c w3 hw3 (KG.out _ Y3.out).1.str (KG.out _ Y3.out).1.max
        have HP := Lib.hid hp
        clear hw3 hp
        go_upto_region 5 with (go_at_call 6; go_loud (((with_reducible refine cK.mono ?_); rintro e w4 ⟨code, name, tx, n, set, keys, sa, ka, sc, kc, rfl, hka, hb4⟩)))
        have ya := (Below.refl w4.heap.size w4).alloc (Nat.le_refl _) (.cells #[.int .i64 code, .string ⟨name.toArray⟩, .string ⟨tx.toArray⟩, .int .i64 n, .slice sa set.length sc, .slice ka keys.length kc] 32)
        have za := World.heap_alloc_new w4 (.cells #[.int .i64 code, .string ⟨name.toArray⟩, .string ⟨tx.toArray⟩, .int .i64 n, .slice sa set.length sc, .slice ka keys.length kc] 32)
        generalize w4.alloc (.cells #[.int .i64 code, .string ⟨name.toArray⟩, .string ⟨tx.toArray⟩, .int .i64 n, .slice sa set.length sc, .slice ka keys.length kc] 32) = wa at *
        have hb3a := hb4.trans (ya.mono hb4.size)
        have YA := Lib.hid (Y3.out.trans (hb3a.mono Y3.out.size))
        have ZA := Lib.hid za
        have KA := Lib.hid (hka.out.keep (ok' := fun _ => True) ya.size (fun j _ hj => ya.block j hj) (fun _ _ _ => trivial))
        have cS := parse_good HP.out (.slice a l.length c) wa (HW3.out.under hb3a).readsK (KG.out _ YA.out).1
        have Z3A := Lib.hid (below_same hb3a Z3.out)
        clear hb4 ya za hb3a cK hka
        go_upto_region 6 with (go_at_call 7; go_loud (((with_reducible refine cS.mono ?_); rintro e w5 ⟨code2, name2, tx2, n2, set2, keys2, sa2, ka2, sc2, kc2, rfl, hkb, hb5⟩)))
        have yb := (Below.refl w5.heap.size w5).alloc (Nat.le_refl _) (.cells #[.int .i64 code2, .string ⟨name2.toArray⟩, .string ⟨tx2.toArray⟩, .int .i64 n2, .slice sa2 set2.length sc2, .slice ka2 keys2.length kc2] 32)
        have zb := World.heap_alloc_new w5 (.cells #[.int .i64 code2, .string ⟨name2.toArray⟩, .string ⟨tx2.toArray⟩, .int .i64 n2, .slice sa2 set2.length sc2, .slice ka2 keys2.length kc2] 32)
        generalize w5.alloc (.cells #[.int .i64 code2, .string ⟨name2.toArray⟩, .string ⟨tx2.toArray⟩, .int .i64 n2, .slice sa2 set2.length sc2, .slice ka2 keys2.length kc2] 32) = wb at *
        have hbab := hb5.trans (yb.mono hb5.size)
        have YB := Lib.hid (YA.out.trans (hbab.mono YA.out.size))
        have ZB := Lib.hid zb
        have ZA2 := Lib.hid (below_same hbab ZA.out)
        have ZL2 := Lib.hid (below_same hbab Z3A.out)
        have KA2 := Lib.hid (KA.out.keep (ok' := fun _ => True) hbab.size (fun j _ hj => hbab.block j hj) (fun _ _ _ => trivial))
        have KB2 := Lib.hid (hkb.out.keep (ok' := fun _ => True) yb.size (fun j _ hj => yb.block j hj) (fun _ _ _ => trivial))
        clear hb5 yb zb hbab cS hkb
        have cB1 := bare_nil 0 wb
        rw [show ((0 : Int) == 0) = true from rfl] at cB1
        have cQ := sameKey_any KB2.out KA2.out
        go_upto_region 8 with (first
          | (go_at_call 8; go_loud (((with_reducible refine cB1.mono ?_); rintro e w6 ⟨rfl, hb6⟩; have hza := below_same hb6 ZA2.out; have hzb := below_same hb6 ZB.out; have hzl := below_same hb6 ZL2.out; obtain ⟨a0, a1, a2, a3, a4, a5⟩ := six_cells' hza; obtain ⟨q0, q1, q2, q3, q4, q5⟩ := six_cells' hzb; have cQ1 := cQ w6 hb6)))
          | (go_at_call 9; go_loud (((with_reducible refine cQ1.mono ?_); rintro e w7 ⟨rfl, hb7⟩))))
        have hb67 := hb6.trans (hb7.mono hb6.size)
        have hb := (Below.refl w7.heap.size w7).drew
        have Y7 := Lib.hid (YB.out.trans (hb67.mono YB.out.size))
        have B7 := Lib.hid hb67
        have ZA7 := Lib.hid (below_same hb7 hza)
        have ZB7 := Lib.hid (below_same hb7 hzb)
        have ZL7 := Lib.hid (below_same hb7 hzl)
        have x : LetK := ⟨uid, flags, day, text, which, many, greatest⟩
        have cH := holds_any ⟨uid, flags, day, text, which, many, greatest⟩ fv HLE.out.1 HLE.out.2 KB2.out
        have cF := found_any ⟨uid, flags, day, text, which, many, greatest⟩ fv HLE.out.1 HLE.out.2 KA2.out (parseK_ok HP.out)
        dsimp only at cH cF
        have KEEP := Lib.hid (show ∀ W, Below w7.heap.size w7 W → (W.cell? ⟨w4.heap.size, 0, none⟩ = some (.int .i64 code) ∧ W.cell? ⟨w4.heap.size, 1, none⟩ = some (.string ⟨name.toArray⟩) ∧ W.cell? ⟨w4.heap.size, 2, none⟩ = some (.string ⟨tx.toArray⟩) ∧ W.cell? ⟨w4.heap.size, 3, none⟩ = some (.int .i64 n) ∧ W.cell? ⟨w4.heap.size, 4, none⟩ = some (.slice sa set.length sc) ∧ W.cell? ⟨w4.heap.size, 5, none⟩ = some (.slice ka keys.length kc)) ∧ (W.cell? ⟨w5.heap.size, 0, none⟩ = some (.int .i64 code2) ∧ W.cell? ⟨w5.heap.size, 1, none⟩ = some (.string ⟨name2.toArray⟩) ∧ W.cell? ⟨w5.heap.size, 2, none⟩ = some (.string ⟨tx2.toArray⟩) ∧ W.cell? ⟨w5.heap.size, 3, none⟩ = some (.int .i64 n2) ∧ W.cell? ⟨w5.heap.size, 4, none⟩ = some (.slice sa2 set2.length sc2) ∧ W.cell? ⟨w5.heap.size, 5, none⟩ = some (.slice ka2 keys2.length kc2)) ∧ (W.cell? ⟨w.heap.size, 0, none⟩ = some (.int .i64 uid) ∧ W.cell? ⟨w.heap.size, 1, none⟩ = some fv ∧ W.cell? ⟨w.heap.size, 2, none⟩ = some (.int .i64 day) ∧ W.cell? ⟨w.heap.size, 3, none⟩ = some (.string ⟨text.toArray⟩)) from fun W h => ⟨six_cells' (below_same h ZA7.out), six_cells' (below_same h ZB7.out), four_cells (below_same h ZL7.out)⟩)
        have CH := Lib.hid (show ∀ W, Below w7.heap.size w7 W → _ from fun W h => cH W (B7.out.trans (h.mono B7.out.size)) (KG.out W (Y7.out.trans (h.mono Y7.out.size))).2.2 (KG.out W (Y7.out.trans (h.mono Y7.out.size))).1.maxL)
        have CF := Lib.hid (show ∀ W, Below w7.heap.size w7 W → _ from fun W h => cF W (B7.out.trans (h.mono B7.out.size)) (KG.out W (Y7.out.trans (h.mono Y7.out.size))).2.2 (KG.out W (Y7.out.trans (h.mono Y7.out.size))).1.maxL (KG.out W (Y7.out.trans (h.mono Y7.out.size))).2.1)
        clear a0 a1 a2 a3 a4 a5 q0 q1 q2 q3 q4 q5 hza hzb hzl hb6 hb7 hb67 cB1 cQ1 cH cF x
        obtain ⟨r, hr⟩ : ∃ r, holdsK ⟨uid, flags, day, text, which, many, greatest⟩ k = r := ⟨_, rfl⟩
        rw [hr] at CH CF
        clear hr
        cases r <;> (
          go_region_held3 (fun W => (W.cell? ⟨w4.heap.size, 0, none⟩ = some (.int .i64 code) ∧ W.cell? ⟨w4.heap.size, 1, none⟩ = some (.string ⟨name.toArray⟩) ∧ W.cell? ⟨w4.heap.size, 2, none⟩ = some (.string ⟨tx.toArray⟩) ∧ W.cell? ⟨w4.heap.size, 3, none⟩ = some (.int .i64 n) ∧ W.cell? ⟨w4.heap.size, 4, none⟩ = some (.slice sa set.length sc) ∧ W.cell? ⟨w4.heap.size, 5, none⟩ = some (.slice ka keys.length kc)) ∧ (W.cell? ⟨w5.heap.size, 0, none⟩ = some (.int .i64 code2) ∧ W.cell? ⟨w5.heap.size, 1, none⟩ = some (.string ⟨name2.toArray⟩) ∧ W.cell? ⟨w5.heap.size, 2, none⟩ = some (.string ⟨tx2.toArray⟩) ∧ W.cell? ⟨w5.heap.size, 3, none⟩ = some (.int .i64 n2) ∧ W.cell? ⟨w5.heap.size, 4, none⟩ = some (.slice sa2 set2.length sc2) ∧ W.cell? ⟨w5.heap.size, 5, none⟩ = some (.slice ka2 keys2.length kc2)) ∧ (W.cell? ⟨w.heap.size, 0, none⟩ = some (.int .i64 uid) ∧ W.cell? ⟨w.heap.size, 1, none⟩ = some fv ∧ W.cell? ⟨w.heap.size, 2, none⟩ = some (.int .i64 day) ∧ W.cell? ⟨w.heap.size, 3, none⟩ = some (.string ⟨text.toArray⟩)))
            (exact KEEP.out _ hb)
            (first
              | (go_at_call 10; with_reducible refine (CH.out _ hb).mono ?_; rintro e w8 ⟨rfl, h⟩; have hb := hb.trans (h.mono hb.size))
              | (go_at_call 11; with_reducible refine (CF.out _ hb).mono ?_; rintro e w9 ⟨rfl, h⟩; have hb := hb.trans (h.mono hb.size)))
          go_wp2_with fail
          go_ret
          exact ⟨rfl, Y7.out.trans (hb.mono Y7.out.size)⟩)
end Go.Proofs.YtcahhnjponeeeaaGreatDoor
