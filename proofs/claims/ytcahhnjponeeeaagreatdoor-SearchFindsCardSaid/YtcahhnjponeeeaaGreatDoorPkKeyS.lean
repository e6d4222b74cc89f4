/- A map of numbers by words that one expression makes, at the walk's operations. No condition beyond those each names. The walk over the reference's key at a word: BODY, TEXT. Conditions: those that key's contract names. The walk over the reference's key at a word that asks for a number. Conditions: those that key's contract names. Each word's way in the reference's key is the document's. Conditions: none. The walks over the reference's ParseKeys and over the law's sameKey at one key that is read twice. Conditions: the tables lie as the program's text lays them. -/
import Derived.Test.YtcahhnjponeeeaaGreatDoorRows
import Derived.Maps.OwnOps
import Derived.Maps.OwnSet
import Derived.Deep.DeepCutAuto
import Derived.StillTailTactics
import Derived.Test.YtcahhnjponeeeaaGreatDoorPkKept
import Derived.Test.YtcahhnjponeeeaaGreatDoorPkHeldS
import Derived.Test.YtcahhnjponeeeaaGreatDoorPkRSetC
import Derived.Test.YtcahhnjponeeeaaGreatDoorPkKeyN
namespace Go.Proofs.YtcahhnjponeeeaaGreatDoor
open Go.RowKit Go.Shelf Go.Sort Go.Maps
theorem lawC : Keyed Tryz.prog 9 := string_keyed Tryz.underlying9
theorem zeroC (w : World) : (zeroValue 3).run Tryz.prog w = .ok (.int .i64 0) w := by kernel_rfl
theorem keyC_of {s : List UInt8} (h : s.length ≤ 1000000) : keyOf Tryz.prog 9 (.string ⟨s.toArray⟩) = some (.string s) := by
  have := WideMaps.keyOf_string_mk (P := Tryz.prog) Tryz.underlying9 (s := ⟨s.toArray⟩) (by rw [text_size]; unfold maxLen; omega)
  simpa using this
/-- a map that was made in the world W0, by what it says -/
structure CodM (W0 w : World) (n : Nat) (D : DataW Unit) : Prop where
  own : w.ownsMap Tryz.prog 9 (plainElem Tryz.prog 3) W0.heap.size n D
  below : Below W0.heap.size W0 w
theorem codM_made (w : World) : CodM w (w.alloc (.map #[] 0)) 0 (.map []) := ⟨World.ownsMap_made w _ _ _, (Below.refl _ _).alloc (Nat.le_refl _) _⟩
theorem codPut_run {W0 w : World} {n : Nat} {D : DataW Unit} (h : CodM W0 w n D) (s : List UInt8) (hl : s.length ≤ 1000000) (c : Int) (hc : (Lit.int .i64 c).wf = true) (hn : n ≤ 1000000) :
    ∃ w', (Instr.mapUpdate 126 (.map (some W0.heap.size)) (.string ⟨s.toArray⟩) (.int .i64 c)).run Tryz.prog w = .ok () w' ∧ CodM W0 w' (n + 1) (D.put (.string s) (.lit (.int .i64 c))) := by
  obtain ⟨w', hrun, hown, hgr⟩ := h.own.update lawC (t := 126) Tryz.underlying126 (by unfold maxLen; omega) (keyC_of hl) (plainElem_int Tryz.underlying3 hc)
  exact ⟨w', hrun, hown, h.below.grown hgr h.below.size (fun k e => by cases e; exact Nat.le_refl _)⟩
theorem codAt_run {W0 w : World} {n : Nat} {D : DataW Unit} (h : CodM W0 w n D) (s : List UInt8) (hl : s.length ≤ 1000000) (c : Int) (hat : D.atKey (.string s) (.lit (.int .i64 0)) = .lit (.int .i64 c)) :
    (Instr.lookup 126 (.map (some W0.heap.size)) (.string ⟨s.toArray⟩) false).run Tryz.prog w = .ok (.int .i64 c) w := by
  obtain ⟨c', hrun, hat', hwc⟩ := h.own.lookup_int lawC (t := 126) Tryz.underlying126 Tryz.underlying3 (zeroC w) (keyC_of hl)
  rw [hat] at hat'
  cases hat'
  exact hrun
def codB : DataW Unit := ((DataW.map []).put (.string [66, 79, 68, 89]) (.lit (.int .i64 4))).put (.string [84, 69, 88, 84]) (.lit (.int .i64 5))
theorem codB_body : codB.atKey (.string [66, 79, 68, 89]) (.lit (.int .i64 0)) = .lit (.int .i64 4) := by kernel_rfl
theorem codB_text : codB.atKey (.string [84, 69, 88, 84]) (.lit (.int .i64 0)) = .lit (.int .i64 5) := by kernel_rfl
def codN : DataW Unit := (((((DataW.map []).put (.string [76, 65, 82, 71, 69, 82]) (.lit (.int .i64 6))).put (.string [83, 77, 65, 76, 76, 69, 82]) (.lit (.int .i64 7))).put (.string [66, 69, 70, 79, 82, 69]) (.lit (.int .i64 8))).put (.string [79, 78]) (.lit (.int .i64 9))).put (.string [83, 73, 78, 67, 69]) (.lit (.int .i64 10))
theorem codN_LARGER : codN.atKey (.string [76, 65, 82, 71, 69, 82]) (.lit (.int .i64 0)) = .lit (.int .i64 6) := by kernel_rfl
theorem codN_SMALLER : codN.atKey (.string [83, 77, 65, 76, 76, 69, 82]) (.lit (.int .i64 0)) = .lit (.int .i64 7) := by kernel_rfl
theorem codN_BEFORE : codN.atKey (.string [66, 69, 70, 79, 82, 69]) (.lit (.int .i64 0)) = .lit (.int .i64 8) := by kernel_rfl
theorem codN_ON : codN.atKey (.string [79, 78]) (.lit (.int .i64 0)) = .lit (.int .i64 9) := by kernel_rfl
theorem codN_SINCE : codN.atKey (.string [83, 73, 78, 67, 69]) (.lit (.int .i64 0)) = .lit (.int .i64 10) := by kernel_rfl
end Go.Proofs.YtcahhnjponeeeaaGreatDoor
namespace Go.Proofs.YtcahhnjponeeeaaGreatDoor
open Go.RowKit Go.Shelf Go.Sort
set_option linter.unusedSimpArgs false
set_option linter.constructorNameAsVariable false in
set_option maxRecDepth 100000 in
set_option maxHeartbeats 16000000 in
theorem rkey_BODY (D B K m : Nat) (hD : D ≤ 7) (hm : m ≤ 60) (a : Option Addr) (c : Nat) (t : Wd) (l : List Wd) (w : World) (h : KsC w K (m : Int) 0) (hw : WordsL w (fun j => j < B) (.slice a (t :: l).length c) (t :: l)) (hB : B ≤ K) (h60 : m + 1 ≤ 60) (h6 : D ≤ 6) (hk : t.kind ≠ 3) (hS : greatL t.text = [66, 79, 68, 89]) :
    Calls Tryz.prog 45 #[.pointer (some ⟨K, 0, none⟩), .slice a (t :: l).length c, .int .i64 (D : Int)] w (RKS B K (textK 4 l (m + 1)) 0 w) := by
  have hKl : K < w.heap.size := (Array.getElem?_eq_some_iff.1 h).1
  have hst := kyR_start h hw hB ((m : Int) + 1)
  obtain ⟨c0, c1⟩ := two_cellsK (below_same ((Below.refl _ w).alloc (Nat.le_refl _) (.cells zero6 32)) h)
  have fz := Lib.frozen_of_heap (below_same ((Below.refl _ w).alloc (Nat.le_refl _) (.cells zero6 32)) h)
  go_enter Tryz.func45, Tryz.ntmps45
  go_upto_region 2 with fail
  obtain ⟨w1, hw1⟩ : ∃ w1, (w.setCell ⟨K, 0, none⟩ (.int .i64 ((m : Int) + 1))).alloc (.cells #[.int .i64 0, .string ⟨#[]⟩, .string ⟨#[]⟩, .int .i64 0, .slice none 0 0, .slice none 0 0] 32) = w1 := ⟨_, rfl⟩
  rw [hw1]
  have hst : KyR w B K ((m : Int) + 1) 0 (.slice a (t :: l).length c) (t :: l) w1 := hw1 ▸ hst
  clear hw1 c0 c1 fz
  obtain ⟨c0, c1⟩ := two_cellsK hst.ks
  have cW0 := kword_any K B ((m : Int) + 1) 0 a c (t :: l) w1 hst.ks hst.words hB
  obtain ⟨g, off, va, vc, rfl, -, hc1, hc2, hg, x0, x1, x2, ht, hl1, hl2⟩ := hst.words.cons
  have h1 : ¬ (60 : Int) < (m : Int) + 1 := by omega
  have h2 : ¬ (6 : Int) < (D : Int) := by omega
  have hkd : decide (t.kind = 3) = false := decide_eq_false hk
  have hkb : (t.kind == 3) = false := by rw [beq_eq_false_iff_ne]; exact hk
  have hwk : wordK (t :: l) = .ok (t.text, l) := by rw [wordK, if_neg hk]
  have cW : Calls Tryz.prog 70 #[.pointer (some ⟨K, 0, none⟩), .slice (some ⟨g, off, none⟩) (l.length + 1) c] w1 fun x w' => ∃ (a2 : Option Addr) (c2 : Nat), x = .returned (.tuple #[.string ⟨t.text.toArray⟩, .slice a2 l.length c2]) ∧ Hid (KyR w B K ((m : Int) + 1) 0 (.slice a2 l.length c2) l w') := cW0.mono (by
    rintro x w' ⟨s, a2, c2, l', e', rfl, hs, hwd, hks, hkk, hd⟩
    rcases hd.out with ⟨h, rfl⟩ | ⟨h, _⟩
    · rw [hwk] at h
      cases h
      exact ⟨a2, c2, rfl, hst.next hkk.out hks.out hwd.out⟩
    · rw [hwk] at h; cases h)
  have cGr := fun W => rgreat_any t.text W (by omega)
  rw [hS] at cGr
  clear cW0 hl1 hl2 x1 x2 hst h hw hk hwk hS
  have hmm := @run_makeMap Tryz.prog
  go_wp2_with (first
    | (go_at_call 70; (((with_reducible refine cW.mono ?_); rintro e4 w2 ⟨a2, c2, rfl, HS2⟩; obtain ⟨d0, d1⟩ := two_cellsK HS2.out.ks)))
    | (go_at_call 42; (((with_reducible refine (cGr w2).mono ?_); rintro e4 w3 ⟨rfl, hb3⟩; have HS := HS2.out.under hb3; clear d0 d1; obtain ⟨d0, d1⟩ := two_cellsK HS.ks; have cW3 := kword_any K B ((m : Int) + 1) 0 a2 c2 l w3 HS.ks HS.words hB)))
    | (go_at_call 70; (((with_reducible refine cW3.mono ?_); rintro e4 w4 ⟨s, a4, c4, l4, e', rfl, hs4, hwd, hks, hkk, hd⟩; have HS4 := HS.next hkk.out hks.out hwd.out; have hC0 := codM_made w4; obtain ⟨v1, hm1, hC1⟩ := codPut_run hC0 [66, 79, 68, 89] (by decide) 4 (by decide) (by decide); obtain ⟨v2, hm2, hC2⟩ := codPut_run hC1 [84, 69, 88, 84] (by decide) 5 (by decide) (by decide); have hlk := codAt_run hC2 [66, 79, 68, 89] (by decide) _ codB_body; have HSm := HS4.under hC2.below; obtain ⟨r0, r1, r2, r3, r4, r5⟩ := ksix_cells HSm.res; have fz := Lib.frozen_of_heap HSm.res))))
  exact HSm.done (r := (textK 4 l (m + 1))) (e0 := 0) hKl hB (k := .mk 4 [] s 0 [] []) (ax := a4) (cx := c4) (lx := l4) (keyC_leaf _ _ 4 [] s 0 (by omega) (by decide)) HSm.words (fun _ => by
    unfold textK
    rcases hd.out with ⟨h, rfl⟩ | ⟨h, _, rfl, rfl⟩
    · rw [h]; refine ⟨?_, ?_, ?_, ?_⟩ <;> first | trivial | rfl
    · rw [h]; exact ⟨rfl, by decide⟩) (fun h => absurd rfl h) rfl rfl rfl
set_option linter.constructorNameAsVariable false in
set_option maxRecDepth 100000 in
set_option maxHeartbeats 16000000 in
theorem rkey_TEXT (D B K m : Nat) (hD : D ≤ 7) (hm : m ≤ 60) (a : Option Addr) (c : Nat) (t : Wd) (l : List Wd) (w : World) (h : KsC w K (m : Int) 0) (hw : WordsL w (fun j => j < B) (.slice a (t :: l).length c) (t :: l)) (hB : B ≤ K) (h60 : m + 1 ≤ 60) (h6 : D ≤ 6) (hk : t.kind ≠ 3) (hS : greatL t.text = [84, 69, 88, 84]) :
    Calls Tryz.prog 45 #[.pointer (some ⟨K, 0, none⟩), .slice a (t :: l).length c, .int .i64 (D : Int)] w (RKS B K (textK 5 l (m + 1)) 0 w) := by
  have hKl : K < w.heap.size := (Array.getElem?_eq_some_iff.1 h).1
  have hst := kyR_start h hw hB ((m : Int) + 1)
  obtain ⟨c0, c1⟩ := two_cellsK (below_same ((Below.refl _ w).alloc (Nat.le_refl _) (.cells zero6 32)) h)
  have fz := Lib.frozen_of_heap (below_same ((Below.refl _ w).alloc (Nat.le_refl _) (.cells zero6 32)) h)
  go_enter Tryz.func45, Tryz.ntmps45
  go_upto_region 2 with fail
  obtain ⟨w1, hw1⟩ : ∃ w1, (w.setCell ⟨K, 0, none⟩ (.int .i64 ((m : Int) + 1))).alloc (.cells #[.int .i64 0, .string ⟨#[]⟩, .string ⟨#[]⟩, .int .i64 0, .slice none 0 0, .slice none 0 0] 32) = w1 := ⟨_, rfl⟩
  rw [hw1]
  have hst : KyR w B K ((m : Int) + 1) 0 (.slice a (t :: l).length c) (t :: l) w1 := hw1 ▸ hst
  clear hw1 c0 c1 fz
  obtain ⟨c0, c1⟩ := two_cellsK hst.ks
  have cW0 := kword_any K B ((m : Int) + 1) 0 a c (t :: l) w1 hst.ks hst.words hB
  obtain ⟨g, off, va, vc, rfl, -, hc1, hc2, hg, x0, x1, x2, ht, hl1, hl2⟩ := hst.words.cons
  have h1 : ¬ (60 : Int) < (m : Int) + 1 := by omega
  have h2 : ¬ (6 : Int) < (D : Int) := by omega
  have hkd : decide (t.kind = 3) = false := decide_eq_false hk
  have hkb : (t.kind == 3) = false := by rw [beq_eq_false_iff_ne]; exact hk
  have hwk : wordK (t :: l) = .ok (t.text, l) := by rw [wordK, if_neg hk]
  have cW : Calls Tryz.prog 70 #[.pointer (some ⟨K, 0, none⟩), .slice (some ⟨g, off, none⟩) (l.length + 1) c] w1 fun x w' => ∃ (a2 : Option Addr) (c2 : Nat), x = .returned (.tuple #[.string ⟨t.text.toArray⟩, .slice a2 l.length c2]) ∧ Hid (KyR w B K ((m : Int) + 1) 0 (.slice a2 l.length c2) l w') := cW0.mono (by
    rintro x w' ⟨s, a2, c2, l', e', rfl, hs, hwd, hks, hkk, hd⟩
    rcases hd.out with ⟨h, rfl⟩ | ⟨h, _⟩
    · rw [hwk] at h
      cases h
      exact ⟨a2, c2, rfl, hst.next hkk.out hks.out hwd.out⟩
    · rw [hwk] at h; cases h)
  have cGr := fun W => rgreat_any t.text W (by omega)
  rw [hS] at cGr
  clear cW0 hl1 hl2 x1 x2 hst h hw hk hwk hS
  have hmm := @run_makeMap Tryz.prog
  go_wp2_with (first
    | (go_at_call 70; (((with_reducible refine cW.mono ?_); rintro e4 w2 ⟨a2, c2, rfl, HS2⟩; obtain ⟨d0, d1⟩ := two_cellsK HS2.out.ks)))
    | (go_at_call 42; (((with_reducible refine (cGr w2).mono ?_); rintro e4 w3 ⟨rfl, hb3⟩; have HS := HS2.out.under hb3; clear d0 d1; obtain ⟨d0, d1⟩ := two_cellsK HS.ks; have cW3 := kword_any K B ((m : Int) + 1) 0 a2 c2 l w3 HS.ks HS.words hB)))
    | (go_at_call 70; (((with_reducible refine cW3.mono ?_); rintro e4 w4 ⟨s, a4, c4, l4, e', rfl, hs4, hwd, hks, hkk, hd⟩; have HS4 := HS.next hkk.out hks.out hwd.out; have hC0 := codM_made w4; obtain ⟨v1, hm1, hC1⟩ := codPut_run hC0 [66, 79, 68, 89] (by decide) 4 (by decide) (by decide); obtain ⟨v2, hm2, hC2⟩ := codPut_run hC1 [84, 69, 88, 84] (by decide) 5 (by decide) (by decide); have hlk := codAt_run hC2 [84, 69, 88, 84] (by decide) _ codB_text; have HSm := HS4.under hC2.below; obtain ⟨r0, r1, r2, r3, r4, r5⟩ := ksix_cells HSm.res; have fz := Lib.frozen_of_heap HSm.res))))
  exact HSm.done (r := (textK 5 l (m + 1))) (e0 := 0) hKl hB (k := .mk 5 [] s 0 [] []) (ax := a4) (cx := c4) (lx := l4) (keyC_leaf _ _ 5 [] s 0 (by omega) (by decide)) HSm.words (fun _ => by
    unfold textK
    rcases hd.out with ⟨h, rfl⟩ | ⟨h, _, rfl, rfl⟩
    · rw [h]; refine ⟨?_, ?_, ?_, ?_⟩ <;> first | trivial | rfl
    · rw [h]; exact ⟨rfl, by decide⟩) (fun h => absurd rfl h) rfl rfl rfl
end Go.Proofs.YtcahhnjponeeeaaGreatDoor
namespace Go.Proofs.YtcahhnjponeeeaaGreatDoor
open Go.RowKit Go.Shelf Go.Sort
set_option linter.unusedSimpArgs false
/-- the word behind it tells a number -/
def numWK (code : Int) (l : List Wd) (n : Nat) : KeyE := match numberK l with
  | .error e => .error e
  | .ok (v, l') => .ok (.mk code [] [] v [] [], l', n)
theorem numWK_bad {code : Int} {l : List Wd} {n E : Nat} (h : wordK l = .error E) : numWK code l n = .error 3 := by
  unfold numWK numberK; rw [h, wordK_three h]
theorem numWK_no {code : Int} {l l4 : List Wd} {s : List UInt8} {n : Nat} (h : wordK l = .ok (s, l4)) (h2 : numK s = none) : numWK code l n = .error 3 := by
  unfold numWK numberK; simp only [h, h2]
theorem numWK_ok {code : Int} {l l4 : List Wd} {s : List UInt8} {n : Nat} {v : Int} (h : wordK l = .ok (s, l4)) (h2 : numK s = some v) : numWK code l n = .ok (.mk code [] [] v [] [], l4, n) := by
  unfold numWK numberK; simp only [h, h2]
theorem rnum_ok {s : List UInt8} {v : Int} (h : numK s = some v) (w : World) (hs : s.length ≤ 1000000) (hG : StrG w) : Calls Tryz.prog 68 #[.string ⟨s.toArray⟩, .int .i64 2147483647] w fun e w' => e = .returned (.tuple #[.int .i64 v, .bool true]) ∧ Below w.heap.size w w' :=
  (num_any s w (by omega) hG).mono (by
    rintro e w' ⟨v', rfl, hv, hb⟩
    have h' : numN s = some v := h
    rw [h', hv v h']
    exact ⟨rfl, hb⟩)
theorem rnum_no {s : List UInt8} (h : numK s = none) (w : World) (hs : s.length ≤ 1000000) (hG : StrG w) : Calls Tryz.prog 68 #[.string ⟨s.toArray⟩, .int .i64 2147483647] w fun e w' => ∃ v : Int, e = .returned (.tuple #[.int .i64 v, .bool false]) ∧ Below w.heap.size w w' :=
  (num_any s w (by omega) hG).mono (by
    rintro e w' ⟨v', rfl, hv, hb⟩
    have h' : numN s = none := h
    rw [h']
    exact ⟨v', rfl, hb⟩)
theorem numK_nil : numK [] = none := by decide +kernel
theorem kfails_ky {w W : World} {B K : Nat} {n e : Int} {v : Value} {l : List Wd} (HS : KyR w B K n e v l W) (hB : B ≤ K) (he : e = 0 ∨ e = 3) : Calls Tryz.prog 69 #[.pointer (some ⟨K, 0, none⟩), .int .i64 3] W fun x w' => x = .returned (.tuple #[]) ∧ Hid (KyR w B K n 3 v l w') :=
  (kfails_any K n e 3 W HS.ks).mono (by
    rintro x w' ⟨rfl, hc, hk⟩
    have e3 : faultK 3 e = 3 := by unfold faultK; split <;> omega
    rw [e3] at hc
    exact ⟨rfl, HS.next hk hc (HS.words.kept hk (fun j hj e => by have : j = K := e; omega))⟩)
set_option linter.constructorNameAsVariable false in
set_option maxRecDepth 100000 in
set_option maxHeartbeats 16000000 in
theorem rkey_LARGER (D B K m : Nat) (hD : D ≤ 7) (hm : m ≤ 60) (a : Option Addr) (c : Nat) (t : Wd) (l : List Wd) (w : World) (h : KsC w K (m : Int) 0) (hw : WordsL w (fun j => j < B) (.slice a (t :: l).length c) (t :: l)) (hB : B ≤ K) (h60 : m + 1 ≤ 60) (h6 : D ≤ 6) (hk : t.kind ≠ 3) (hG : GW K w) (hS : greatL t.text = [76, 65, 82, 71, 69, 82]) :
    Calls Tryz.prog 45 #[.pointer (some ⟨K, 0, none⟩), .slice a (t :: l).length c, .int .i64 (D : Int)] w (RKS B K (numWK 6 l (m + 1)) 0 w) := by
  have hKl : K < w.heap.size := (Array.getElem?_eq_some_iff.1 h).1
  have hst := kyR_start h hw hB ((m : Int) + 1)
  obtain ⟨c0, c1⟩ := two_cellsK (below_same ((Below.refl _ w).alloc (Nat.le_refl _) (.cells zero6 32)) h)
  have fz := Lib.frozen_of_heap (below_same ((Below.refl _ w).alloc (Nat.le_refl _) (.cells zero6 32)) h)
  go_enter Tryz.func45, Tryz.ntmps45
  go_upto_region 2 with fail
  obtain ⟨w1, hw1⟩ : ∃ w1, (w.setCell ⟨K, 0, none⟩ (.int .i64 ((m : Int) + 1))).alloc (.cells #[.int .i64 0, .string ⟨#[]⟩, .string ⟨#[]⟩, .int .i64 0, .slice none 0 0, .slice none 0 0] 32) = w1 := ⟨_, rfl⟩
  rw [hw1]
  have hst : KyR w B K ((m : Int) + 1) 0 (.slice a (t :: l).length c) (t :: l) w1 := hw1 ▸ hst
  clear hw1 c0 c1 fz
  obtain ⟨c0, c1⟩ := two_cellsK hst.ks
  have cW0 := kword_any K B ((m : Int) + 1) 0 a c (t :: l) w1 hst.ks hst.words hB
  obtain ⟨g, off, va, vc, rfl, -, hc1, hc2, hg, x0, x1, x2, ht, hl1, hl2⟩ := hst.words.cons
  have h1 : ¬ (60 : Int) < (m : Int) + 1 := by omega
  have h2 : ¬ (6 : Int) < (D : Int) := by omega
  have hkd : decide (t.kind = 3) = false := decide_eq_false hk
  have hkb : (t.kind == 3) = false := by rw [beq_eq_false_iff_ne]; exact hk
  have hwk : wordK (t :: l) = .ok (t.text, l) := by rw [wordK, if_neg hk]
  have cW : Calls Tryz.prog 70 #[.pointer (some ⟨K, 0, none⟩), .slice (some ⟨g, off, none⟩) (l.length + 1) c] w1 fun x w' => ∃ (a2 : Option Addr) (c2 : Nat), x = .returned (.tuple #[.string ⟨t.text.toArray⟩, .slice a2 l.length c2]) ∧ Hid (KyR w B K ((m : Int) + 1) 0 (.slice a2 l.length c2) l w') := cW0.mono (by
    rintro x w' ⟨s, a2, c2, l', e', rfl, hs, hwd, hks, hkk, hd⟩
    rcases hd.out with ⟨h, rfl⟩ | ⟨h, _⟩
    · rw [hwk] at h
      cases h
      exact ⟨a2, c2, rfl, hst.next hkk.out hks.out hwd.out⟩
    · rw [hwk] at h; cases h)
  have cGr := fun W => rgreat_any t.text W (by omega)
  rw [hS] at cGr
  clear cW0 hl1 hl2 x1 x2 hst h hw hk hwk hS
  have hmm := @run_makeMap Tryz.prog
  cases hw3 : wordK l with
  | error E =>
    have HR := Lib.hid (numWK_bad (code := 6) (n := m + 1) hw3)
    go_wp2_with (first
        | (go_at_call 70; (((with_reducible refine cW.mono ?_); rintro e4 w2 ⟨a2, c2, rfl, HS2⟩; obtain ⟨d0, d1⟩ := two_cellsK HS2.out.ks)))
        | (go_at_call 42; (((with_reducible refine (cGr w2).mono ?_); rintro e4 w3 ⟨rfl, hb3⟩; have HS := HS2.out.under hb3; clear d0 d1; obtain ⟨d0, d1⟩ := two_cellsK HS.ks; have cW3 := kword_bad HS hB hw3)))
        | (go_at_call 70; (((with_reducible refine cW3.mono ?_); rintro e4 w4 ⟨a4, c4, rfl, HS4⟩; have cN := rnum_no numK_nil w4 (by decide) (hG.next HS4.out.kept).at.1)))
        | (go_at_call 68; (((with_reducible refine cN.mono ?_); rintro e4 w5 ⟨v, rfl, hb5⟩; have HS5 := HS4.out.under hb5; have cF := kfails_ky HS5 hB (by decide))))
        | (go_at_call 69; (((with_reducible refine cF.mono ?_); rintro e4 w6 ⟨rfl, HS6⟩; have hC0 := codM_made w6; obtain ⟨v1, hm1, hC1⟩ := codPut_run hC0 [76, 65, 82, 71, 69, 82] (by decide) 6 (by decide) (by decide); obtain ⟨v2, hm2, hC2⟩ := codPut_run hC1 [83, 77, 65, 76, 76, 69, 82] (by decide) 7 (by decide) (by decide); obtain ⟨v3, hm3, hC3⟩ := codPut_run hC2 [66, 69, 70, 79, 82, 69] (by decide) 8 (by decide) (by decide); obtain ⟨v4, hm4, hC4⟩ := codPut_run hC3 [79, 78] (by decide) 9 (by decide) (by decide); obtain ⟨v5, hm5, hC5⟩ := codPut_run hC4 [83, 73, 78, 67, 69] (by decide) 10 (by decide) (by decide); have hlk := codAt_run hC5 [76, 65, 82, 71, 69, 82] (by decide) _ codN_LARGER; have HSm := HS6.out.under hC5.below; obtain ⟨r0, r1, r2, r3, r4, r5⟩ := ksix_cells HSm.res; have fz := Lib.frozen_of_heap HSm.res))))
    exact HSm.done (r := numWK 6 l (m + 1)) (e0 := 0) hKl hB (ax := a4) (cx := c4) (lx := []) (k := .mk 6 [] [] v [] []) (keyC_leaf _ _ 6 [] [] v (by decide) (by decide)) HSm.words (fun _ => by rw [HR.out]; exact ⟨rfl, by decide⟩) (fun h => absurd rfl h) rfl rfl rfl
  | ok z =>
    obtain ⟨s, l4⟩ := z
    cases hn : numK s with
    | none =>
      have HR := Lib.hid (numWK_no (code := 6) (n := m + 1) hw3 hn)
      go_wp2_with (first
        | (go_at_call 70; (((with_reducible refine cW.mono ?_); rintro e4 w2 ⟨a2, c2, rfl, HS2⟩; obtain ⟨d0, d1⟩ := two_cellsK HS2.out.ks)))
        | (go_at_call 42; (((with_reducible refine (cGr w2).mono ?_); rintro e4 w3 ⟨rfl, hb3⟩; have HS := HS2.out.under hb3; clear d0 d1; obtain ⟨d0, d1⟩ := two_cellsK HS.ks; have cW3 := kword_ok HS hB hw3)))
        | (go_at_call 70; (((with_reducible refine cW3.mono ?_); rintro e4 w4 ⟨a4, c4, rfl, hs4, HS4⟩; have cN := rnum_no hn w4 hs4 (hG.next HS4.out.kept).at.1)))
        | (go_at_call 68; (((with_reducible refine cN.mono ?_); rintro e4 w5 ⟨v, rfl, hb5⟩; have HS5 := HS4.out.under hb5; have cF := kfails_ky HS5 hB (by decide))))
        | (go_at_call 69; (((with_reducible refine cF.mono ?_); rintro e4 w6 ⟨rfl, HS6⟩; have hC0 := codM_made w6; obtain ⟨v1, hm1, hC1⟩ := codPut_run hC0 [76, 65, 82, 71, 69, 82] (by decide) 6 (by decide) (by decide); obtain ⟨v2, hm2, hC2⟩ := codPut_run hC1 [83, 77, 65, 76, 76, 69, 82] (by decide) 7 (by decide) (by decide); obtain ⟨v3, hm3, hC3⟩ := codPut_run hC2 [66, 69, 70, 79, 82, 69] (by decide) 8 (by decide) (by decide); obtain ⟨v4, hm4, hC4⟩ := codPut_run hC3 [79, 78] (by decide) 9 (by decide) (by decide); obtain ⟨v5, hm5, hC5⟩ := codPut_run hC4 [83, 73, 78, 67, 69] (by decide) 10 (by decide) (by decide); have hlk := codAt_run hC5 [76, 65, 82, 71, 69, 82] (by decide) _ codN_LARGER; have HSm := HS6.out.under hC5.below; obtain ⟨r0, r1, r2, r3, r4, r5⟩ := ksix_cells HSm.res; have fz := Lib.frozen_of_heap HSm.res))))
      exact HSm.done (r := numWK 6 l (m + 1)) (e0 := 0) hKl hB (ax := a4) (cx := c4) (lx := l4) (k := .mk 6 [] [] v [] []) (keyC_leaf _ _ 6 [] [] v (by decide) (by decide)) HSm.words (fun _ => by rw [HR.out]; exact ⟨rfl, by decide⟩) (fun h => absurd rfl h) rfl rfl rfl
    | some v =>
      have HR := Lib.hid (numWK_ok (code := 6) (n := m + 1) hw3 hn)
      go_wp2_with (first
        | (go_at_call 70; (((with_reducible refine cW.mono ?_); rintro e4 w2 ⟨a2, c2, rfl, HS2⟩; obtain ⟨d0, d1⟩ := two_cellsK HS2.out.ks)))
        | (go_at_call 42; (((with_reducible refine (cGr w2).mono ?_); rintro e4 w3 ⟨rfl, hb3⟩; have HS := HS2.out.under hb3; clear d0 d1; obtain ⟨d0, d1⟩ := two_cellsK HS.ks; have cW3 := kword_ok HS hB hw3)))
        | (go_at_call 70; (((with_reducible refine cW3.mono ?_); rintro e4 w4 ⟨a4, c4, rfl, hs4, HS4⟩; have cN := rnum_ok hn w4 hs4 (hG.next HS4.out.kept).at.1)))
        | (go_at_call 68; (((with_reducible refine cN.mono ?_); rintro e4 w5 ⟨rfl, hb5⟩; have HS5 := HS4.out.under hb5; have hC0 := codM_made w5; obtain ⟨v1, hm1, hC1⟩ := codPut_run hC0 [76, 65, 82, 71, 69, 82] (by decide) 6 (by decide) (by decide); obtain ⟨v2, hm2, hC2⟩ := codPut_run hC1 [83, 77, 65, 76, 76, 69, 82] (by decide) 7 (by decide) (by decide); obtain ⟨v3, hm3, hC3⟩ := codPut_run hC2 [66, 69, 70, 79, 82, 69] (by decide) 8 (by decide) (by decide); obtain ⟨v4, hm4, hC4⟩ := codPut_run hC3 [79, 78] (by decide) 9 (by decide) (by decide); obtain ⟨v5, hm5, hC5⟩ := codPut_run hC4 [83, 73, 78, 67, 69] (by decide) 10 (by decide) (by decide); have hlk := codAt_run hC5 [76, 65, 82, 71, 69, 82] (by decide) _ codN_LARGER; have HSm := HS5.under hC5.below; obtain ⟨r0, r1, r2, r3, r4, r5⟩ := ksix_cells HSm.res; have fz := Lib.frozen_of_heap HSm.res))))
      exact HSm.done (r := numWK 6 l (m + 1)) (e0 := 0) hKl hB (ax := a4) (cx := c4) (lx := l4) (k := .mk 6 [] [] v [] []) (keyC_leaf _ _ 6 [] [] v (by decide) (by decide)) HSm.words (fun _ => by rw [HR.out]; exact ⟨rfl, rfl, rfl, rfl⟩) (fun h => absurd rfl h) rfl rfl rfl
set_option linter.constructorNameAsVariable false in
set_option maxRecDepth 100000 in
set_option maxHeartbeats 16000000 in
theorem rkey_SMALLER (D B K m : Nat) (hD : D ≤ 7) (hm : m ≤ 60) (a : Option Addr) (c : Nat) (t : Wd) (l : List Wd) (w : World) (h : KsC w K (m : Int) 0) (hw : WordsL w (fun j => j < B) (.slice a (t :: l).length c) (t :: l)) (hB : B ≤ K) (h60 : m + 1 ≤ 60) (h6 : D ≤ 6) (hk : t.kind ≠ 3) (hG : GW K w) (hS : greatL t.text = [83, 77, 65, 76, 76, 69, 82]) :
    Calls Tryz.prog 45 #[.pointer (some ⟨K, 0, none⟩), .slice a (t :: l).length c, .int .i64 (D : Int)] w (RKS B K (numWK 7 l (m + 1)) 0 w) := by
  have hKl : K < w.heap.size := (Array.getElem?_eq_some_iff.1 h).1
  have hst := kyR_start h hw hB ((m : Int) + 1)
  obtain ⟨c0, c1⟩ := two_cellsK (below_same ((Below.refl _ w).alloc (Nat.le_refl _) (.cells zero6 32)) h)
  have fz := Lib.frozen_of_heap (below_same ((Below.refl _ w).alloc (Nat.le_refl _) (.cells zero6 32)) h)
  go_enter Tryz.func45, Tryz.ntmps45
  go_upto_region 2 with fail
  obtain ⟨w1, hw1⟩ : ∃ w1, (w.setCell ⟨K, 0, none⟩ (.int .i64 ((m : Int) + 1))).alloc (.cells #[.int .i64 0, .string ⟨#[]⟩, .string ⟨#[]⟩, .int .i64 0, .slice none 0 0, .slice none 0 0] 32) = w1 := ⟨_, rfl⟩
  rw [hw1]
  have hst : KyR w B K ((m : Int) + 1) 0 (.slice a (t :: l).length c) (t :: l) w1 := hw1 ▸ hst
  clear hw1 c0 c1 fz
  obtain ⟨c0, c1⟩ := two_cellsK hst.ks
  have cW0 := kword_any K B ((m : Int) + 1) 0 a c (t :: l) w1 hst.ks hst.words hB
  obtain ⟨g, off, va, vc, rfl, -, hc1, hc2, hg, x0, x1, x2, ht, hl1, hl2⟩ := hst.words.cons
  have h1 : ¬ (60 : Int) < (m : Int) + 1 := by omega
  have h2 : ¬ (6 : Int) < (D : Int) := by omega
  have hkd : decide (t.kind = 3) = false := decide_eq_false hk
  have hkb : (t.kind == 3) = false := by rw [beq_eq_false_iff_ne]; exact hk
  have hwk : wordK (t :: l) = .ok (t.text, l) := by rw [wordK, if_neg hk]
  have cW : Calls Tryz.prog 70 #[.pointer (some ⟨K, 0, none⟩), .slice (some ⟨g, off, none⟩) (l.length + 1) c] w1 fun x w' => ∃ (a2 : Option Addr) (c2 : Nat), x = .returned (.tuple #[.string ⟨t.text.toArray⟩, .slice a2 l.length c2]) ∧ Hid (KyR w B K ((m : Int) + 1) 0 (.slice a2 l.length c2) l w') := cW0.mono (by
    rintro x w' ⟨s, a2, c2, l', e', rfl, hs, hwd, hks, hkk, hd⟩
    rcases hd.out with ⟨h, rfl⟩ | ⟨h, _⟩
    · rw [hwk] at h
      cases h
      exact ⟨a2, c2, rfl, hst.next hkk.out hks.out hwd.out⟩
    · rw [hwk] at h; cases h)
  have cGr := fun W => rgreat_any t.text W (by omega)
  rw [hS] at cGr
  clear cW0 hl1 hl2 x1 x2 hst h hw hk hwk hS
  have hmm := @run_makeMap Tryz.prog
  cases hw3 : wordK l with
  | error E =>
    have HR := Lib.hid (numWK_bad (code := 7) (n := m + 1) hw3)
    go_wp2_with (first
        | (go_at_call 70; (((with_reducible refine cW.mono ?_); rintro e4 w2 ⟨a2, c2, rfl, HS2⟩; obtain ⟨d0, d1⟩ := two_cellsK HS2.out.ks)))
        | (go_at_call 42; (((with_reducible refine (cGr w2).mono ?_); rintro e4 w3 ⟨rfl, hb3⟩; have HS := HS2.out.under hb3; clear d0 d1; obtain ⟨d0, d1⟩ := two_cellsK HS.ks; have cW3 := kword_bad HS hB hw3)))
        | (go_at_call 70; (((with_reducible refine cW3.mono ?_); rintro e4 w4 ⟨a4, c4, rfl, HS4⟩; have cN := rnum_no numK_nil w4 (by decide) (hG.next HS4.out.kept).at.1)))
        | (go_at_call 68; (((with_reducible refine cN.mono ?_); rintro e4 w5 ⟨v, rfl, hb5⟩; have HS5 := HS4.out.under hb5; have cF := kfails_ky HS5 hB (by decide))))
        | (go_at_call 69; (((with_reducible refine cF.mono ?_); rintro e4 w6 ⟨rfl, HS6⟩; have hC0 := codM_made w6; obtain ⟨v1, hm1, hC1⟩ := codPut_run hC0 [76, 65, 82, 71, 69, 82] (by decide) 6 (by decide) (by decide); obtain ⟨v2, hm2, hC2⟩ := codPut_run hC1 [83, 77, 65, 76, 76, 69, 82] (by decide) 7 (by decide) (by decide); obtain ⟨v3, hm3, hC3⟩ := codPut_run hC2 [66, 69, 70, 79, 82, 69] (by decide) 8 (by decide) (by decide); obtain ⟨v4, hm4, hC4⟩ := codPut_run hC3 [79, 78] (by decide) 9 (by decide) (by decide); obtain ⟨v5, hm5, hC5⟩ := codPut_run hC4 [83, 73, 78, 67, 69] (by decide) 10 (by decide) (by decide); have hlk := codAt_run hC5 [83, 77, 65, 76, 76, 69, 82] (by decide) _ codN_SMALLER; have HSm := HS6.out.under hC5.below; obtain ⟨r0, r1, r2, r3, r4, r5⟩ := ksix_cells HSm.res; have fz := Lib.frozen_of_heap HSm.res))))
    exact HSm.done (r := numWK 7 l (m + 1)) (e0 := 0) hKl hB (ax := a4) (cx := c4) (lx := []) (k := .mk 7 [] [] v [] []) (keyC_leaf _ _ 7 [] [] v (by decide) (by decide)) HSm.words (fun _ => by rw [HR.out]; exact ⟨rfl, by decide⟩) (fun h => absurd rfl h) rfl rfl rfl
  | ok z =>
    obtain ⟨s, l4⟩ := z
    cases hn : numK s with
    | none =>
      have HR := Lib.hid (numWK_no (code := 7) (n := m + 1) hw3 hn)
      go_wp2_with (first
        | (go_at_call 70; (((with_reducible refine cW.mono ?_); rintro e4 w2 ⟨a2, c2, rfl, HS2⟩; obtain ⟨d0, d1⟩ := two_cellsK HS2.out.ks)))
        | (go_at_call 42; (((with_reducible refine (cGr w2).mono ?_); rintro e4 w3 ⟨rfl, hb3⟩; have HS := HS2.out.under hb3; clear d0 d1; obtain ⟨d0, d1⟩ := two_cellsK HS.ks; have cW3 := kword_ok HS hB hw3)))
        | (go_at_call 70; (((with_reducible refine cW3.mono ?_); rintro e4 w4 ⟨a4, c4, rfl, hs4, HS4⟩; have cN := rnum_no hn w4 hs4 (hG.next HS4.out.kept).at.1)))
        | (go_at_call 68; (((with_reducible refine cN.mono ?_); rintro e4 w5 ⟨v, rfl, hb5⟩; have HS5 := HS4.out.under hb5; have cF := kfails_ky HS5 hB (by decide))))
        | (go_at_call 69; (((with_reducible refine cF.mono ?_); rintro e4 w6 ⟨rfl, HS6⟩; have hC0 := codM_made w6; obtain ⟨v1, hm1, hC1⟩ := codPut_run hC0 [76, 65, 82, 71, 69, 82] (by decide) 6 (by decide) (by decide); obtain ⟨v2, hm2, hC2⟩ := codPut_run hC1 [83, 77, 65, 76, 76, 69, 82] (by decide) 7 (by decide) (by decide); obtain ⟨v3, hm3, hC3⟩ := codPut_run hC2 [66, 69, 70, 79, 82, 69] (by decide) 8 (by decide) (by decide); obtain ⟨v4, hm4, hC4⟩ := codPut_run hC3 [79, 78] (by decide) 9 (by decide) (by decide); obtain ⟨v5, hm5, hC5⟩ := codPut_run hC4 [83, 73, 78, 67, 69] (by decide) 10 (by decide) (by decide); have hlk := codAt_run hC5 [83, 77, 65, 76, 76, 69, 82] (by decide) _ codN_SMALLER; have HSm := HS6.out.under hC5.below; obtain ⟨r0, r1, r2, r3, r4, r5⟩ := ksix_cells HSm.res; have fz := Lib.frozen_of_heap HSm.res))))
      exact HSm.done (r := numWK 7 l (m + 1)) (e0 := 0) hKl hB (ax := a4) (cx := c4) (lx := l4) (k := .mk 7 [] [] v [] []) (keyC_leaf _ _ 7 [] [] v (by decide) (by decide)) HSm.words (fun _ => by rw [HR.out]; exact ⟨rfl, by decide⟩) (fun h => absurd rfl h) rfl rfl rfl
    | some v =>
      have HR := Lib.hid (numWK_ok (code := 7) (n := m + 1) hw3 hn)
      go_wp2_with (first
        | (go_at_call 70; (((with_reducible refine cW.mono ?_); rintro e4 w2 ⟨a2, c2, rfl, HS2⟩; obtain ⟨d0, d1⟩ := two_cellsK HS2.out.ks)))
        | (go_at_call 42; (((with_reducible refine (cGr w2).mono ?_); rintro e4 w3 ⟨rfl, hb3⟩; have HS := HS2.out.under hb3; clear d0 d1; obtain ⟨d0, d1⟩ := two_cellsK HS.ks; have cW3 := kword_ok HS hB hw3)))
        | (go_at_call 70; (((with_reducible refine cW3.mono ?_); rintro e4 w4 ⟨a4, c4, rfl, hs4, HS4⟩; have cN := rnum_ok hn w4 hs4 (hG.next HS4.out.kept).at.1)))
        | (go_at_call 68; (((with_reducible refine cN.mono ?_); rintro e4 w5 ⟨rfl, hb5⟩; have HS5 := HS4.out.under hb5; have hC0 := codM_made w5; obtain ⟨v1, hm1, hC1⟩ := codPut_run hC0 [76, 65, 82, 71, 69, 82] (by decide) 6 (by decide) (by decide); obtain ⟨v2, hm2, hC2⟩ := codPut_run hC1 [83, 77, 65, 76, 76, 69, 82] (by decide) 7 (by decide) (by decide); obtain ⟨v3, hm3, hC3⟩ := codPut_run hC2 [66, 69, 70, 79, 82, 69] (by decide) 8 (by decide) (by decide); obtain ⟨v4, hm4, hC4⟩ := codPut_run hC3 [79, 78] (by decide) 9 (by decide) (by decide); obtain ⟨v5, hm5, hC5⟩ := codPut_run hC4 [83, 73, 78, 67, 69] (by decide) 10 (by decide) (by decide); have hlk := codAt_run hC5 [83, 77, 65, 76, 76, 69, 82] (by decide) _ codN_SMALLER; have HSm := HS5.under hC5.below; obtain ⟨r0, r1, r2, r3, r4, r5⟩ := ksix_cells HSm.res; have fz := Lib.frozen_of_heap HSm.res))))
      exact HSm.done (r := numWK 7 l (m + 1)) (e0 := 0) hKl hB (ax := a4) (cx := c4) (lx := l4) (k := .mk 7 [] [] v [] []) (keyC_leaf _ _ 7 [] [] v (by decide) (by decide)) HSm.words (fun _ => by rw [HR.out]; exact ⟨rfl, rfl, rfl, rfl⟩) (fun h => absurd rfl h) rfl rfl rfl
end Go.Proofs.YtcahhnjponeeeaaGreatDoor
namespace Go.Proofs.YtcahhnjponeeeaaGreatDoor
open Go.RowKit Go.Shelf Go.Sort
set_option linter.unusedSimpArgs false
set_option linter.constructorNameAsVariable false in
set_option maxRecDepth 100000 in
set_option maxHeartbeats 16000000 in
theorem rkey_BEFORE (D B K m : Nat) (hD : D ≤ 7) (hm : m ≤ 60) (a : Option Addr) (c : Nat) (t : Wd) (l : List Wd) (w : World) (h : KsC w K (m : Int) 0) (hw : WordsL w (fun j => j < B) (.slice a (t :: l).length c) (t :: l)) (hB : B ≤ K) (h60 : m + 1 ≤ 60) (h6 : D ≤ 6) (hk : t.kind ≠ 3) (hG : GW K w) (hS : greatL t.text = [66, 69, 70, 79, 82, 69]) :
    Calls Tryz.prog 45 #[.pointer (some ⟨K, 0, none⟩), .slice a (t :: l).length c, .int .i64 (D : Int)] w (RKS B K (numWK 8 l (m + 1)) 0 w) := by
  have hKl : K < w.heap.size := (Array.getElem?_eq_some_iff.1 h).1
  have hst := kyR_start h hw hB ((m : Int) + 1)
  obtain ⟨c0, c1⟩ := two_cellsK (below_same ((Below.refl _ w).alloc (Nat.le_refl _) (.cells zero6 32)) h)
  have fz := Lib.frozen_of_heap (below_same ((Below.refl _ w).alloc (Nat.le_refl _) (.cells zero6 32)) h)
  go_enter Tryz.func45, Tryz.ntmps45
  go_upto_region 2 with fail
  obtain ⟨w1, hw1⟩ : ∃ w1, (w.setCell ⟨K, 0, none⟩ (.int .i64 ((m : Int) + 1))).alloc (.cells #[.int .i64 0, .string ⟨#[]⟩, .string ⟨#[]⟩, .int .i64 0, .slice none 0 0, .slice none 0 0] 32) = w1 := ⟨_, rfl⟩
  rw [hw1]
  have hst : KyR w B K ((m : Int) + 1) 0 (.slice a (t :: l).length c) (t :: l) w1 := hw1 ▸ hst
  clear hw1 c0 c1 fz
  obtain ⟨c0, c1⟩ := two_cellsK hst.ks
  have cW0 := kword_any K B ((m : Int) + 1) 0 a c (t :: l) w1 hst.ks hst.words hB
  obtain ⟨g, off, va, vc, rfl, -, hc1, hc2, hg, x0, x1, x2, ht, hl1, hl2⟩ := hst.words.cons
  have h1 : ¬ (60 : Int) < (m : Int) + 1 := by omega
  have h2 : ¬ (6 : Int) < (D : Int) := by omega
  have hkd : decide (t.kind = 3) = false := decide_eq_false hk
  have hkb : (t.kind == 3) = false := by rw [beq_eq_false_iff_ne]; exact hk
  have hwk : wordK (t :: l) = .ok (t.text, l) := by rw [wordK, if_neg hk]
  have cW : Calls Tryz.prog 70 #[.pointer (some ⟨K, 0, none⟩), .slice (some ⟨g, off, none⟩) (l.length + 1) c] w1 fun x w' => ∃ (a2 : Option Addr) (c2 : Nat), x = .returned (.tuple #[.string ⟨t.text.toArray⟩, .slice a2 l.length c2]) ∧ Hid (KyR w B K ((m : Int) + 1) 0 (.slice a2 l.length c2) l w') := cW0.mono (by
    rintro x w' ⟨s, a2, c2, l', e', rfl, hs, hwd, hks, hkk, hd⟩
    rcases hd.out with ⟨h, rfl⟩ | ⟨h, _⟩
    · rw [hwk] at h
      cases h
      exact ⟨a2, c2, rfl, hst.next hkk.out hks.out hwd.out⟩
    · rw [hwk] at h; cases h)
  have cGr := fun W => rgreat_any t.text W (by omega)
  rw [hS] at cGr
  clear cW0 hl1 hl2 x1 x2 hst h hw hk hwk hS
  have hmm := @run_makeMap Tryz.prog
  cases hw3 : wordK l with
  | error E =>
    have HR := Lib.hid (numWK_bad (code := 8) (n := m + 1) hw3)
    go_wp2_with (first
        | (go_at_call 70; (((with_reducible refine cW.mono ?_); rintro e4 w2 ⟨a2, c2, rfl, HS2⟩; obtain ⟨d0, d1⟩ := two_cellsK HS2.out.ks)))
        | (go_at_call 42; (((with_reducible refine (cGr w2).mono ?_); rintro e4 w3 ⟨rfl, hb3⟩; have HS := HS2.out.under hb3; clear d0 d1; obtain ⟨d0, d1⟩ := two_cellsK HS.ks; have cW3 := kword_bad HS hB hw3)))
        | (go_at_call 70; (((with_reducible refine cW3.mono ?_); rintro e4 w4 ⟨a4, c4, rfl, HS4⟩; have cN := rnum_no numK_nil w4 (by decide) (hG.next HS4.out.kept).at.1)))
        | (go_at_call 68; (((with_reducible refine cN.mono ?_); rintro e4 w5 ⟨v, rfl, hb5⟩; have HS5 := HS4.out.under hb5; have cF := kfails_ky HS5 hB (by decide))))
        | (go_at_call 69; (((with_reducible refine cF.mono ?_); rintro e4 w6 ⟨rfl, HS6⟩; have hC0 := codM_made w6; obtain ⟨v1, hm1, hC1⟩ := codPut_run hC0 [76, 65, 82, 71, 69, 82] (by decide) 6 (by decide) (by decide); obtain ⟨v2, hm2, hC2⟩ := codPut_run hC1 [83, 77, 65, 76, 76, 69, 82] (by decide) 7 (by decide) (by decide); obtain ⟨v3, hm3, hC3⟩ := codPut_run hC2 [66, 69, 70, 79, 82, 69] (by decide) 8 (by decide) (by decide); obtain ⟨v4, hm4, hC4⟩ := codPut_run hC3 [79, 78] (by decide) 9 (by decide) (by decide); obtain ⟨v5, hm5, hC5⟩ := codPut_run hC4 [83, 73, 78, 67, 69] (by decide) 10 (by decide) (by decide); have hlk := codAt_run hC5 [66, 69, 70, 79, 82, 69] (by decide) _ codN_BEFORE; have HSm := HS6.out.under hC5.below; obtain ⟨r0, r1, r2, r3, r4, r5⟩ := ksix_cells HSm.res; have fz := Lib.frozen_of_heap HSm.res))))
    exact HSm.done (r := numWK 8 l (m + 1)) (e0 := 0) hKl hB (ax := a4) (cx := c4) (lx := []) (k := .mk 8 [] [] v [] []) (keyC_leaf _ _ 8 [] [] v (by decide) (by decide)) HSm.words (fun _ => by rw [HR.out]; exact ⟨rfl, by decide⟩) (fun h => absurd rfl h) rfl rfl rfl
  | ok z =>
    obtain ⟨s, l4⟩ := z
    cases hn : numK s with
    | none =>
      have HR := Lib.hid (numWK_no (code := 8) (n := m + 1) hw3 hn)
      go_wp2_with (first
        | (go_at_call 70; (((with_reducible refine cW.mono ?_); rintro e4 w2 ⟨a2, c2, rfl, HS2⟩; obtain ⟨d0, d1⟩ := two_cellsK HS2.out.ks)))
        | (go_at_call 42; (((with_reducible refine (cGr w2).mono ?_); rintro e4 w3 ⟨rfl, hb3⟩; have HS := HS2.out.under hb3; clear d0 d1; obtain ⟨d0, d1⟩ := two_cellsK HS.ks; have cW3 := kword_ok HS hB hw3)))
        | (go_at_call 70; (((with_reducible refine cW3.mono ?_); rintro e4 w4 ⟨a4, c4, rfl, hs4, HS4⟩; have cN := rnum_no hn w4 hs4 (hG.next HS4.out.kept).at.1)))
        | (go_at_call 68; (((with_reducible refine cN.mono ?_); rintro e4 w5 ⟨v, rfl, hb5⟩; have HS5 := HS4.out.under hb5; have cF := kfails_ky HS5 hB (by decide))))
        | (go_at_call 69; (((with_reducible refine cF.mono ?_); rintro e4 w6 ⟨rfl, HS6⟩; have hC0 := codM_made w6; obtain ⟨v1, hm1, hC1⟩ := codPut_run hC0 [76, 65, 82, 71, 69, 82] (by decide) 6 (by decide) (by decide); obtain ⟨v2, hm2, hC2⟩ := codPut_run hC1 [83, 77, 65, 76, 76, 69, 82] (by decide) 7 (by decide) (by decide); obtain ⟨v3, hm3, hC3⟩ := codPut_run hC2 [66, 69, 70, 79, 82, 69] (by decide) 8 (by decide) (by decide); obtain ⟨v4, hm4, hC4⟩ := codPut_run hC3 [79, 78] (by decide) 9 (by decide) (by decide); obtain ⟨v5, hm5, hC5⟩ := codPut_run hC4 [83, 73, 78, 67, 69] (by decide) 10 (by decide) (by decide); have hlk := codAt_run hC5 [66, 69, 70, 79, 82, 69] (by decide) _ codN_BEFORE; have HSm := HS6.out.under hC5.below; obtain ⟨r0, r1, r2, r3, r4, r5⟩ := ksix_cells HSm.res; have fz := Lib.frozen_of_heap HSm.res))))
      exact HSm.done (r := numWK 8 l (m + 1)) (e0 := 0) hKl hB (ax := a4) (cx := c4) (lx := l4) (k := .mk 8 [] [] v [] []) (keyC_leaf _ _ 8 [] [] v (by decide) (by decide)) HSm.words (fun _ => by rw [HR.out]; exact ⟨rfl, by decide⟩) (fun h => absurd rfl h) rfl rfl rfl
    | some v =>
      have HR := Lib.hid (numWK_ok (code := 8) (n := m + 1) hw3 hn)
      go_wp2_with (first
        | (go_at_call 70; (((with_reducible refine cW.mono ?_); rintro e4 w2 ⟨a2, c2, rfl, HS2⟩; obtain ⟨d0, d1⟩ := two_cellsK HS2.out.ks)))
        | (go_at_call 42; (((with_reducible refine (cGr w2).mono ?_); rintro e4 w3 ⟨rfl, hb3⟩; have HS := HS2.out.under hb3; clear d0 d1; obtain ⟨d0, d1⟩ := two_cellsK HS.ks; have cW3 := kword_ok HS hB hw3)))
        | (go_at_call 70; (((with_reducible refine cW3.mono ?_); rintro e4 w4 ⟨a4, c4, rfl, hs4, HS4⟩; have cN := rnum_ok hn w4 hs4 (hG.next HS4.out.kept).at.1)))
        | (go_at_call 68; (((with_reducible refine cN.mono ?_); rintro e4 w5 ⟨rfl, hb5⟩; have HS5 := HS4.out.under hb5; have hC0 := codM_made w5; obtain ⟨v1, hm1, hC1⟩ := codPut_run hC0 [76, 65, 82, 71, 69, 82] (by decide) 6 (by decide) (by decide); obtain ⟨v2, hm2, hC2⟩ := codPut_run hC1 [83, 77, 65, 76, 76, 69, 82] (by decide) 7 (by decide) (by decide); obtain ⟨v3, hm3, hC3⟩ := codPut_run hC2 [66, 69, 70, 79, 82, 69] (by decide) 8 (by decide) (by decide); obtain ⟨v4, hm4, hC4⟩ := codPut_run hC3 [79, 78] (by decide) 9 (by decide) (by decide); obtain ⟨v5, hm5, hC5⟩ := codPut_run hC4 [83, 73, 78, 67, 69] (by decide) 10 (by decide) (by decide); have hlk := codAt_run hC5 [66, 69, 70, 79, 82, 69] (by decide) _ codN_BEFORE; have HSm := HS5.under hC5.below; obtain ⟨r0, r1, r2, r3, r4, r5⟩ := ksix_cells HSm.res; have fz := Lib.frozen_of_heap HSm.res))))
      exact HSm.done (r := numWK 8 l (m + 1)) (e0 := 0) hKl hB (ax := a4) (cx := c4) (lx := l4) (k := .mk 8 [] [] v [] []) (keyC_leaf _ _ 8 [] [] v (by decide) (by decide)) HSm.words (fun _ => by rw [HR.out]; exact ⟨rfl, rfl, rfl, rfl⟩) (fun h => absurd rfl h) rfl rfl rfl
set_option linter.constructorNameAsVariable false in
set_option maxRecDepth 100000 in
set_option maxHeartbeats 16000000 in
theorem rkey_ON (D B K m : Nat) (hD : D ≤ 7) (hm : m ≤ 60) (a : Option Addr) (c : Nat) (t : Wd) (l : List Wd) (w : World) (h : KsC w K (m : Int) 0) (hw : WordsL w (fun j => j < B) (.slice a (t :: l).length c) (t :: l)) (hB : B ≤ K) (h60 : m + 1 ≤ 60) (h6 : D ≤ 6) (hk : t.kind ≠ 3) (hG : GW K w) (hS : greatL t.text = [79, 78]) :
    Calls Tryz.prog 45 #[.pointer (some ⟨K, 0, none⟩), .slice a (t :: l).length c, .int .i64 (D : Int)] w (RKS B K (numWK 9 l (m + 1)) 0 w) := by
  have hKl : K < w.heap.size := (Array.getElem?_eq_some_iff.1 h).1
  have hst := kyR_start h hw hB ((m : Int) + 1)
  obtain ⟨c0, c1⟩ := two_cellsK (below_same ((Below.refl _ w).alloc (Nat.le_refl _) (.cells zero6 32)) h)
  have fz := Lib.frozen_of_heap (below_same ((Below.refl _ w).alloc (Nat.le_refl _) (.cells zero6 32)) h)
  go_enter Tryz.func45, Tryz.ntmps45
  go_upto_region 2 with fail
  obtain ⟨w1, hw1⟩ : ∃ w1, (w.setCell ⟨K, 0, none⟩ (.int .i64 ((m : Int) + 1))).alloc (.cells #[.int .i64 0, .string ⟨#[]⟩, .string ⟨#[]⟩, .int .i64 0, .slice none 0 0, .slice none 0 0] 32) = w1 := ⟨_, rfl⟩
  rw [hw1]
  have hst : KyR w B K ((m : Int) + 1) 0 (.slice a (t :: l).length c) (t :: l) w1 := hw1 ▸ hst
  clear hw1 c0 c1 fz
  obtain ⟨c0, c1⟩ := two_cellsK hst.ks
  have cW0 := kword_any K B ((m : Int) + 1) 0 a c (t :: l) w1 hst.ks hst.words hB
  obtain ⟨g, off, va, vc, rfl, -, hc1, hc2, hg, x0, x1, x2, ht, hl1, hl2⟩ := hst.words.cons
  have h1 : ¬ (60 : Int) < (m : Int) + 1 := by omega
  have h2 : ¬ (6 : Int) < (D : Int) := by omega
  have hkd : decide (t.kind = 3) = false := decide_eq_false hk
  have hkb : (t.kind == 3) = false := by rw [beq_eq_false_iff_ne]; exact hk
  have hwk : wordK (t :: l) = .ok (t.text, l) := by rw [wordK, if_neg hk]
  have cW : Calls Tryz.prog 70 #[.pointer (some ⟨K, 0, none⟩), .slice (some ⟨g, off, none⟩) (l.length + 1) c] w1 fun x w' => ∃ (a2 : Option Addr) (c2 : Nat), x = .returned (.tuple #[.string ⟨t.text.toArray⟩, .slice a2 l.length c2]) ∧ Hid (KyR w B K ((m : Int) + 1) 0 (.slice a2 l.length c2) l w') := cW0.mono (by
    rintro x w' ⟨s, a2, c2, l', e', rfl, hs, hwd, hks, hkk, hd⟩
    rcases hd.out with ⟨h, rfl⟩ | ⟨h, _⟩
    · rw [hwk] at h
      cases h
      exact ⟨a2, c2, rfl, hst.next hkk.out hks.out hwd.out⟩
    · rw [hwk] at h; cases h)
  have cGr := fun W => rgreat_any t.text W (by omega)
  rw [hS] at cGr
  clear cW0 hl1 hl2 x1 x2 hst h hw hk hwk hS
  have hmm := @run_makeMap Tryz.prog
  cases hw3 : wordK l with
  | error E =>
    have HR := Lib.hid (numWK_bad (code := 9) (n := m + 1) hw3)
    go_wp2_with (first
        | (go_at_call 70; (((with_reducible refine cW.mono ?_); rintro e4 w2 ⟨a2, c2, rfl, HS2⟩; obtain ⟨d0, d1⟩ := two_cellsK HS2.out.ks)))
        | (go_at_call 42; (((with_reducible refine (cGr w2).mono ?_); rintro e4 w3 ⟨rfl, hb3⟩; have HS := HS2.out.under hb3; clear d0 d1; obtain ⟨d0, d1⟩ := two_cellsK HS.ks; have cW3 := kword_bad HS hB hw3)))
        | (go_at_call 70; (((with_reducible refine cW3.mono ?_); rintro e4 w4 ⟨a4, c4, rfl, HS4⟩; have cN := rnum_no numK_nil w4 (by decide) (hG.next HS4.out.kept).at.1)))
        | (go_at_call 68; (((with_reducible refine cN.mono ?_); rintro e4 w5 ⟨v, rfl, hb5⟩; have HS5 := HS4.out.under hb5; have cF := kfails_ky HS5 hB (by decide))))
        | (go_at_call 69; (((with_reducible refine cF.mono ?_); rintro e4 w6 ⟨rfl, HS6⟩; have hC0 := codM_made w6; obtain ⟨v1, hm1, hC1⟩ := codPut_run hC0 [76, 65, 82, 71, 69, 82] (by decide) 6 (by decide) (by decide); obtain ⟨v2, hm2, hC2⟩ := codPut_run hC1 [83, 77, 65, 76, 76, 69, 82] (by decide) 7 (by decide) (by decide); obtain ⟨v3, hm3, hC3⟩ := codPut_run hC2 [66, 69, 70, 79, 82, 69] (by decide) 8 (by decide) (by decide); obtain ⟨v4, hm4, hC4⟩ := codPut_run hC3 [79, 78] (by decide) 9 (by decide) (by decide); obtain ⟨v5, hm5, hC5⟩ := codPut_run hC4 [83, 73, 78, 67, 69] (by decide) 10 (by decide) (by decide); have hlk := codAt_run hC5 [79, 78] (by decide) _ codN_ON; have HSm := HS6.out.under hC5.below; obtain ⟨r0, r1, r2, r3, r4, r5⟩ := ksix_cells HSm.res; have fz := Lib.frozen_of_heap HSm.res))))
    exact HSm.done (r := numWK 9 l (m + 1)) (e0 := 0) hKl hB (ax := a4) (cx := c4) (lx := []) (k := .mk 9 [] [] v [] []) (keyC_leaf _ _ 9 [] [] v (by decide) (by decide)) HSm.words (fun _ => by rw [HR.out]; exact ⟨rfl, by decide⟩) (fun h => absurd rfl h) rfl rfl rfl
  | ok z =>
    obtain ⟨s, l4⟩ := z
    cases hn : numK s with
    | none =>
      have HR := Lib.hid (numWK_no (code := 9) (n := m + 1) hw3 hn)
      go_wp2_with (first
        | (go_at_call 70; (((with_reducible refine cW.mono ?_); rintro e4 w2 ⟨a2, c2, rfl, HS2⟩; obtain ⟨d0, d1⟩ := two_cellsK HS2.out.ks)))
        | (go_at_call 42; (((with_reducible refine (cGr w2).mono ?_); rintro e4 w3 ⟨rfl, hb3⟩; have HS := HS2.out.under hb3; clear d0 d1; obtain ⟨d0, d1⟩ := two_cellsK HS.ks; have cW3 := kword_ok HS hB hw3)))
        | (go_at_call 70; (((with_reducible refine cW3.mono ?_); rintro e4 w4 ⟨a4, c4, rfl, hs4, HS4⟩; have cN := rnum_no hn w4 hs4 (hG.next HS4.out.kept).at.1)))
        | (go_at_call 68; (((with_reducible refine cN.mono ?_); rintro e4 w5 ⟨v, rfl, hb5⟩; have HS5 := HS4.out.under hb5; have cF := kfails_ky HS5 hB (by decide))))
        | (go_at_call 69; (((with_reducible refine cF.mono ?_); rintro e4 w6 ⟨rfl, HS6⟩; have hC0 := codM_made w6; obtain ⟨v1, hm1, hC1⟩ := codPut_run hC0 [76, 65, 82, 71, 69, 82] (by decide) 6 (by decide) (by decide); obtain ⟨v2, hm2, hC2⟩ := codPut_run hC1 [83, 77, 65, 76, 76, 69, 82] (by decide) 7 (by decide) (by decide); obtain ⟨v3, hm3, hC3⟩ := codPut_run hC2 [66, 69, 70, 79, 82, 69] (by decide) 8 (by decide) (by decide); obtain ⟨v4, hm4, hC4⟩ := codPut_run hC3 [79, 78] (by decide) 9 (by decide) (by decide); obtain ⟨v5, hm5, hC5⟩ := codPut_run hC4 [83, 73, 78, 67, 69] (by decide) 10 (by decide) (by decide); have hlk := codAt_run hC5 [79, 78] (by decide) _ codN_ON; have HSm := HS6.out.under hC5.below; obtain ⟨r0, r1, r2, r3, r4, r5⟩ := ksix_cells HSm.res; have fz := Lib.frozen_of_heap HSm.res))))
      exact HSm.done (r := numWK 9 l (m + 1)) (e0 := 0) hKl hB (ax := a4) (cx := c4) (lx := l4) (k := .mk 9 [] [] v [] []) (keyC_leaf _ _ 9 [] [] v (by decide) (by decide)) HSm.words (fun _ => by rw [HR.out]; exact ⟨rfl, by decide⟩) (fun h => absurd rfl h) rfl rfl rfl
    | some v =>
      have HR := Lib.hid (numWK_ok (code := 9) (n := m + 1) hw3 hn)
      go_wp2_with (first
        | (go_at_call 70; (((with_reducible refine cW.mono ?_); rintro e4 w2 ⟨a2, c2, rfl, HS2⟩; obtain ⟨d0, d1⟩ := two_cellsK HS2.out.ks)))
        | (go_at_call 42; (((with_reducible refine (cGr w2).mono ?_); rintro e4 w3 ⟨rfl, hb3⟩; have HS := HS2.out.under hb3; clear d0 d1; obtain ⟨d0, d1⟩ := two_cellsK HS.ks; have cW3 := kword_ok HS hB hw3)))
        | (go_at_call 70; (((with_reducible refine cW3.mono ?_); rintro e4 w4 ⟨a4, c4, rfl, hs4, HS4⟩; have cN := rnum_ok hn w4 hs4 (hG.next HS4.out.kept).at.1)))
        | (go_at_call 68; (((with_reducible refine cN.mono ?_); rintro e4 w5 ⟨rfl, hb5⟩; have HS5 := HS4.out.under hb5; have hC0 := codM_made w5; obtain ⟨v1, hm1, hC1⟩ := codPut_run hC0 [76, 65, 82, 71, 69, 82] (by decide) 6 (by decide) (by decide); obtain ⟨v2, hm2, hC2⟩ := codPut_run hC1 [83, 77, 65, 76, 76, 69, 82] (by decide) 7 (by decide) (by decide); obtain ⟨v3, hm3, hC3⟩ := codPut_run hC2 [66, 69, 70, 79, 82, 69] (by decide) 8 (by decide) (by decide); obtain ⟨v4, hm4, hC4⟩ := codPut_run hC3 [79, 78] (by decide) 9 (by decide) (by decide); obtain ⟨v5, hm5, hC5⟩ := codPut_run hC4 [83, 73, 78, 67, 69] (by decide) 10 (by decide) (by decide); have hlk := codAt_run hC5 [79, 78] (by decide) _ codN_ON; have HSm := HS5.under hC5.below; obtain ⟨r0, r1, r2, r3, r4, r5⟩ := ksix_cells HSm.res; have fz := Lib.frozen_of_heap HSm.res))))
      exact HSm.done (r := numWK 9 l (m + 1)) (e0 := 0) hKl hB (ax := a4) (cx := c4) (lx := l4) (k := .mk 9 [] [] v [] []) (keyC_leaf _ _ 9 [] [] v (by decide) (by decide)) HSm.words (fun _ => by rw [HR.out]; exact ⟨rfl, rfl, rfl, rfl⟩) (fun h => absurd rfl h) rfl rfl rfl
set_option linter.constructorNameAsVariable false in
set_option maxRecDepth 100000 in
set_option maxHeartbeats 16000000 in
theorem rkey_SINCE (D B K m : Nat) (hD : D ≤ 7) (hm : m ≤ 60) (a : Option Addr) (c : Nat) (t : Wd) (l : List Wd) (w : World) (h : KsC w K (m : Int) 0) (hw : WordsL w (fun j => j < B) (.slice a (t :: l).length c) (t :: l)) (hB : B ≤ K) (h60 : m + 1 ≤ 60) (h6 : D ≤ 6) (hk : t.kind ≠ 3) (hG : GW K w) (hS : greatL t.text = [83, 73, 78, 67, 69]) :
    Calls Tryz.prog 45 #[.pointer (some ⟨K, 0, none⟩), .slice a (t :: l).length c, .int .i64 (D : Int)] w (RKS B K (numWK 10 l (m + 1)) 0 w) := by
  have hKl : K < w.heap.size := (Array.getElem?_eq_some_iff.1 h).1
  have hst := kyR_start h hw hB ((m : Int) + 1)
  obtain ⟨c0, c1⟩ := two_cellsK (below_same ((Below.refl _ w).alloc (Nat.le_refl _) (.cells zero6 32)) h)
  have fz := Lib.frozen_of_heap (below_same ((Below.refl _ w).alloc (Nat.le_refl _) (.cells zero6 32)) h)
  go_enter Tryz.func45, Tryz.ntmps45
  go_upto_region 2 with fail
  obtain ⟨w1, hw1⟩ : ∃ w1, (w.setCell ⟨K, 0, none⟩ (.int .i64 ((m : Int) + 1))).alloc (.cells #[.int .i64 0, .string ⟨#[]⟩, .string ⟨#[]⟩, .int .i64 0, .slice none 0 0, .slice none 0 0] 32) = w1 := ⟨_, rfl⟩
  rw [hw1]
  have hst : KyR w B K ((m : Int) + 1) 0 (.slice a (t :: l).length c) (t :: l) w1 := hw1 ▸ hst
  clear hw1 c0 c1 fz
  obtain ⟨c0, c1⟩ := two_cellsK hst.ks
  have cW0 := kword_any K B ((m : Int) + 1) 0 a c (t :: l) w1 hst.ks hst.words hB
  obtain ⟨g, off, va, vc, rfl, -, hc1, hc2, hg, x0, x1, x2, ht, hl1, hl2⟩ := hst.words.cons
  have h1 : ¬ (60 : Int) < (m : Int) + 1 := by omega
  have h2 : ¬ (6 : Int) < (D : Int) := by omega
  have hkd : decide (t.kind = 3) = false := decide_eq_false hk
  have hkb : (t.kind == 3) = false := by rw [beq_eq_false_iff_ne]; exact hk
  have hwk : wordK (t :: l) = .ok (t.text, l) := by rw [wordK, if_neg hk]
  have cW : Calls Tryz.prog 70 #[.pointer (some ⟨K, 0, none⟩), .slice (some ⟨g, off, none⟩) (l.length + 1) c] w1 fun x w' => ∃ (a2 : Option Addr) (c2 : Nat), x = .returned (.tuple #[.string ⟨t.text.toArray⟩, .slice a2 l.length c2]) ∧ Hid (KyR w B K ((m : Int) + 1) 0 (.slice a2 l.length c2) l w') := cW0.mono (by
    rintro x w' ⟨s, a2, c2, l', e', rfl, hs, hwd, hks, hkk, hd⟩
    rcases hd.out with ⟨h, rfl⟩ | ⟨h, _⟩
    · rw [hwk] at h
      cases h
      exact ⟨a2, c2, rfl, hst.next hkk.out hks.out hwd.out⟩
    · rw [hwk] at h; cases h)
  have cGr := fun W => rgreat_any t.text W (by omega)
  rw [hS] at cGr
  clear cW0 hl1 hl2 x1 x2 hst h hw hk hwk hS
  have hmm := @run_makeMap Tryz.prog
  cases hw3 : wordK l with
  | error E =>
    have HR := Lib.hid (numWK_bad (code := 10) (n := m + 1) hw3)
    go_wp2_with (first
        | (go_at_call 70; (((with_reducible refine cW.mono ?_); rintro e4 w2 ⟨a2, c2, rfl, HS2⟩; obtain ⟨d0, d1⟩ := two_cellsK HS2.out.ks)))
        | (go_at_call 42; (((with_reducible refine (cGr w2).mono ?_); rintro e4 w3 ⟨rfl, hb3⟩; have HS := HS2.out.under hb3; clear d0 d1; obtain ⟨d0, d1⟩ := two_cellsK HS.ks; have cW3 := kword_bad HS hB hw3)))
        | (go_at_call 70; (((with_reducible refine cW3.mono ?_); rintro e4 w4 ⟨a4, c4, rfl, HS4⟩; have cN := rnum_no numK_nil w4 (by decide) (hG.next HS4.out.kept).at.1)))
        | (go_at_call 68; (((with_reducible refine cN.mono ?_); rintro e4 w5 ⟨v, rfl, hb5⟩; have HS5 := HS4.out.under hb5; have cF := kfails_ky HS5 hB (by decide))))
        | (go_at_call 69; (((with_reducible refine cF.mono ?_); rintro e4 w6 ⟨rfl, HS6⟩; have hC0 := codM_made w6; obtain ⟨v1, hm1, hC1⟩ := codPut_run hC0 [76, 65, 82, 71, 69, 82] (by decide) 6 (by decide) (by decide); obtain ⟨v2, hm2, hC2⟩ := codPut_run hC1 [83, 77, 65, 76, 76, 69, 82] (by decide) 7 (by decide) (by decide); obtain ⟨v3, hm3, hC3⟩ := codPut_run hC2 [66, 69, 70, 79, 82, 69] (by decide) 8 (by decide) (by decide); obtain ⟨v4, hm4, hC4⟩ := codPut_run hC3 [79, 78] (by decide) 9 (by decide) (by decide); obtain ⟨v5, hm5, hC5⟩ := codPut_run hC4 [83, 73, 78, 67, 69] (by decide) 10 (by decide) (by decide); have hlk := codAt_run hC5 [83, 73, 78, 67, 69] (by decide) _ codN_SINCE; have HSm := HS6.out.under hC5.below; obtain ⟨r0, r1, r2, r3, r4, r5⟩ := ksix_cells HSm.res; have fz := Lib.frozen_of_heap HSm.res))))
    exact HSm.done (r := numWK 10 l (m + 1)) (e0 := 0) hKl hB (ax := a4) (cx := c4) (lx := []) (k := .mk 10 [] [] v [] []) (keyC_leaf _ _ 10 [] [] v (by decide) (by decide)) HSm.words (fun _ => by rw [HR.out]; exact ⟨rfl, by decide⟩) (fun h => absurd rfl h) rfl rfl rfl
  | ok z =>
    obtain ⟨s, l4⟩ := z
    cases hn : numK s with
    | none =>
      have HR := Lib.hid (numWK_no (code := 10) (n := m + 1) hw3 hn)
      go_wp2_with (first
        | (go_at_call 70; (((with_reducible refine cW.mono ?_); rintro e4 w2 ⟨a2, c2, rfl, HS2⟩; obtain ⟨d0, d1⟩ := two_cellsK HS2.out.ks)))
        | (go_at_call 42; (((with_reducible refine (cGr w2).mono ?_); rintro e4 w3 ⟨rfl, hb3⟩; have HS := HS2.out.under hb3; clear d0 d1; obtain ⟨d0, d1⟩ := two_cellsK HS.ks; have cW3 := kword_ok HS hB hw3)))
        | (go_at_call 70; (((with_reducible refine cW3.mono ?_); rintro e4 w4 ⟨a4, c4, rfl, hs4, HS4⟩; have cN := rnum_no hn w4 hs4 (hG.next HS4.out.kept).at.1)))
        | (go_at_call 68; (((with_reducible refine cN.mono ?_); rintro e4 w5 ⟨v, rfl, hb5⟩; have HS5 := HS4.out.under hb5; have cF := kfails_ky HS5 hB (by decide))))
        | (go_at_call 69; (((with_reducible refine cF.mono ?_); rintro e4 w6 ⟨rfl, HS6⟩; have hC0 := codM_made w6; obtain ⟨v1, hm1, hC1⟩ := codPut_run hC0 [76, 65, 82, 71, 69, 82] (by decide) 6 (by decide) (by decide); obtain ⟨v2, hm2, hC2⟩ := codPut_run hC1 [83, 77, 65, 76, 76, 69, 82] (by decide) 7 (by decide) (by decide); obtain ⟨v3, hm3, hC3⟩ := codPut_run hC2 [66, 69, 70, 79, 82, 69] (by decide) 8 (by decide) (by decide); obtain ⟨v4, hm4, hC4⟩ := codPut_run hC3 [79, 78] (by decide) 9 (by decide) (by decide); obtain ⟨v5, hm5, hC5⟩ := codPut_run hC4 [83, 73, 78, 67, 69] (by decide) 10 (by decide) (by decide); have hlk := codAt_run hC5 [83, 73, 78, 67, 69] (by decide) _ codN_SINCE; have HSm := HS6.out.under hC5.below; obtain ⟨r0, r1, r2, r3, r4, r5⟩ := ksix_cells HSm.res; have fz := Lib.frozen_of_heap HSm.res))))
      exact HSm.done (r := numWK 10 l (m + 1)) (e0 := 0) hKl hB (ax := a4) (cx := c4) (lx := l4) (k := .mk 10 [] [] v [] []) (keyC_leaf _ _ 10 [] [] v (by decide) (by decide)) HSm.words (fun _ => by rw [HR.out]; exact ⟨rfl, by decide⟩) (fun h => absurd rfl h) rfl rfl rfl
    | some v =>
      have HR := Lib.hid (numWK_ok (code := 10) (n := m + 1) hw3 hn)
      go_wp2_with (first
        | (go_at_call 70; (((with_reducible refine cW.mono ?_); rintro e4 w2 ⟨a2, c2, rfl, HS2⟩; obtain ⟨d0, d1⟩ := two_cellsK HS2.out.ks)))
        | (go_at_call 42; (((with_reducible refine (cGr w2).mono ?_); rintro e4 w3 ⟨rfl, hb3⟩; have HS := HS2.out.under hb3; clear d0 d1; obtain ⟨d0, d1⟩ := two_cellsK HS.ks; have cW3 := kword_ok HS hB hw3)))
        | (go_at_call 70; (((with_reducible refine cW3.mono ?_); rintro e4 w4 ⟨a4, c4, rfl, hs4, HS4⟩; have cN := rnum_ok hn w4 hs4 (hG.next HS4.out.kept).at.1)))
        | (go_at_call 68; (((with_reducible refine cN.mono ?_); rintro e4 w5 ⟨rfl, hb5⟩; have HS5 := HS4.out.under hb5; have hC0 := codM_made w5; obtain ⟨v1, hm1, hC1⟩ := codPut_run hC0 [76, 65, 82, 71, 69, 82] (by decide) 6 (by decide) (by decide); obtain ⟨v2, hm2, hC2⟩ := codPut_run hC1 [83, 77, 65, 76, 76, 69, 82] (by decide) 7 (by decide) (by decide); obtain ⟨v3, hm3, hC3⟩ := codPut_run hC2 [66, 69, 70, 79, 82, 69] (by decide) 8 (by decide) (by decide); obtain ⟨v4, hm4, hC4⟩ := codPut_run hC3 [79, 78] (by decide) 9 (by decide) (by decide); obtain ⟨v5, hm5, hC5⟩ := codPut_run hC4 [83, 73, 78, 67, 69] (by decide) 10 (by decide) (by decide); have hlk := codAt_run hC5 [83, 73, 78, 67, 69] (by decide) _ codN_SINCE; have HSm := HS5.under hC5.below; obtain ⟨r0, r1, r2, r3, r4, r5⟩ := ksix_cells HSm.res; have fz := Lib.frozen_of_heap HSm.res))))
      exact HSm.done (r := numWK 10 l (m + 1)) (e0 := 0) hKl hB (ax := a4) (cx := c4) (lx := l4) (k := .mk 10 [] [] v [] []) (keyC_leaf _ _ 10 [] [] v (by decide) (by decide)) HSm.words (fun _ => by rw [HR.out]; exact ⟨rfl, rfl, rfl, rfl⟩) (fun h => absurd rfl h) rfl rfl rfl
end Go.Proofs.YtcahhnjponeeeaaGreatDoor
namespace Go.Proofs.YtcahhnjponeeeaaGreatDoor
open Go.RowKit Go.Shelf Go.Sort
set_option linter.unusedSimpArgs false
theorem plain_ALL {f : List Wd → Nat → KeyE} {w : List UInt8} (h : greatL w = [65, 76, 76]) (l : List Wd) (n : Nat) : plainK f w l n = .ok (.mk 1 [] [] 0 [] [], l, n) := by
  unfold plainK
  rw [h]
  rfl
theorem plain_SEEN {f : List Wd → Nat → KeyE} {w : List UInt8} (h : greatL w = [83, 69, 69, 78]) (l : List Wd) (n : Nat) : plainK f w l n = .ok (.mk 2 [92, 83, 101, 101, 110] [] 0 [] [], l, n) := by
  unfold plainK
  rw [h]
  rfl
theorem plain_ANSWERED {f : List Wd → Nat → KeyE} {w : List UInt8} (h : greatL w = [65, 78, 83, 87, 69, 82, 69, 68]) (l : List Wd) (n : Nat) : plainK f w l n = .ok (.mk 2 [92, 65, 110, 115, 119, 101, 114, 101, 100] [] 0 [] [], l, n) := by
  unfold plainK
  rw [h]
  rfl
theorem plain_FLAGGED {f : List Wd → Nat → KeyE} {w : List UInt8} (h : greatL w = [70, 76, 65, 71, 71, 69, 68]) (l : List Wd) (n : Nat) : plainK f w l n = .ok (.mk 2 [92, 70, 108, 97, 103, 103, 101, 100] [] 0 [] [], l, n) := by
  unfold plainK
  rw [h]
  rfl
theorem plain_DELETED {f : List Wd → Nat → KeyE} {w : List UInt8} (h : greatL w = [68, 69, 76, 69, 84, 69, 68]) (l : List Wd) (n : Nat) : plainK f w l n = .ok (.mk 2 [92, 68, 101, 108, 101, 116, 101, 100] [] 0 [] [], l, n) := by
  unfold plainK
  rw [h]
  rfl
theorem plain_DRAFT {f : List Wd → Nat → KeyE} {w : List UInt8} (h : greatL w = [68, 82, 65, 70, 84]) (l : List Wd) (n : Nat) : plainK f w l n = .ok (.mk 2 [92, 68, 114, 97, 102, 116] [] 0 [] [], l, n) := by
  unfold plainK
  rw [h]
  rfl
theorem plain_UNSEEN {f : List Wd → Nat → KeyE} {w : List UInt8} (h : greatL w = [85, 78, 83, 69, 69, 78]) (l : List Wd) (n : Nat) : plainK f w l n = .ok (notK (.mk 2 [92, 83, 101, 101, 110] [] 0 [] []), l, n) := by
  unfold plainK
  rw [h]
  rfl
theorem plain_UNANSWERED {f : List Wd → Nat → KeyE} {w : List UInt8} (h : greatL w = [85, 78, 65, 78, 83, 87, 69, 82, 69, 68]) (l : List Wd) (n : Nat) : plainK f w l n = .ok (notK (.mk 2 [92, 65, 110, 115, 119, 101, 114, 101, 100] [] 0 [] []), l, n) := by
  unfold plainK
  rw [h]
  rfl
theorem plain_UNFLAGGED {f : List Wd → Nat → KeyE} {w : List UInt8} (h : greatL w = [85, 78, 70, 76, 65, 71, 71, 69, 68]) (l : List Wd) (n : Nat) : plainK f w l n = .ok (notK (.mk 2 [92, 70, 108, 97, 103, 103, 101, 100] [] 0 [] []), l, n) := by
  unfold plainK
  rw [h]
  rfl
theorem plain_UNDELETED {f : List Wd → Nat → KeyE} {w : List UInt8} (h : greatL w = [85, 78, 68, 69, 76, 69, 84, 69, 68]) (l : List Wd) (n : Nat) : plainK f w l n = .ok (notK (.mk 2 [92, 68, 101, 108, 101, 116, 101, 100] [] 0 [] []), l, n) := by
  unfold plainK
  rw [h]
  rfl
theorem plain_UNDRAFT {f : List Wd → Nat → KeyE} {w : List UInt8} (h : greatL w = [85, 78, 68, 82, 65, 70, 84]) (l : List Wd) (n : Nat) : plainK f w l n = .ok (notK (.mk 2 [92, 68, 114, 97, 102, 116] [] 0 [] []), l, n) := by
  unfold plainK
  rw [h]
  rfl
theorem plain_KEYWORD {f : List Wd → Nat → KeyE} {w : List UInt8} (h : greatL w = [75, 69, 89, 87, 79, 82, 68]) (l : List Wd) (n : Nat) : plainK f w l n = kwK false l n := by
  unfold plainK
  rw [h]
  rw [show sysK [75, 69, 89, 87, 79, 82, 68] = none from rfl]
  dsimp only
  rw [show numsK [75, 69, 89, 87, 79, 82, 68] = 0 from rfl, if_neg (by decide)]
  unfold moreK
  rw [if_neg (by decide), if_neg (by decide), if_pos rfl]
  unfold kwK
  cases flagK l <;> rfl
theorem plain_UNKEYWORD {f : List Wd → Nat → KeyE} {w : List UInt8} (h : greatL w = [85, 78, 75, 69, 89, 87, 79, 82, 68]) (l : List Wd) (n : Nat) : plainK f w l n = kwK true l n := by
  unfold plainK
  rw [h]
  rw [show sysK [85, 78, 75, 69, 89, 87, 79, 82, 68] = none from rfl]
  dsimp only
  rw [show numsK [85, 78, 75, 69, 89, 87, 79, 82, 68] = 0 from rfl, if_neg (by decide)]
  unfold moreK
  rw [if_neg (by decide), if_neg (by decide), if_neg (by decide), if_pos rfl]
  unfold kwK
  cases flagK l <;> rfl
theorem plain_FROM {f : List Wd → Nat → KeyE} {w : List UInt8} (h : greatL w = [70, 82, 79, 77]) (l : List Wd) (n : Nat) : plainK f w l n = headK [102, 114, 111, 109] l n := by
  unfold plainK
  rw [h]
  rfl
theorem plain_TO {f : List Wd → Nat → KeyE} {w : List UInt8} (h : greatL w = [84, 79]) (l : List Wd) (n : Nat) : plainK f w l n = headK [116, 111] l n := by
  unfold plainK
  rw [h]
  rfl
theorem plain_SUBJECT {f : List Wd → Nat → KeyE} {w : List UInt8} (h : greatL w = [83, 85, 66, 74, 69, 67, 84]) (l : List Wd) (n : Nat) : plainK f w l n = headK [115, 117, 98, 106, 101, 99, 116] l n := by
  unfold plainK
  rw [h]
  rfl
theorem plain_CC {f : List Wd → Nat → KeyE} {w : List UInt8} (h : greatL w = [67, 67]) (l : List Wd) (n : Nat) : plainK f w l n = headK [99, 99] l n := by
  unfold plainK
  rw [h]
  rfl
theorem plain_HEADER {f : List Wd → Nat → KeyE} {w : List UInt8} (h : greatL w = [72, 69, 65, 68, 69, 82]) (l : List Wd) (n : Nat) : plainK f w l n = hdK l n := by
  unfold plainK
  rw [h]
  rw [show sysK [72, 69, 65, 68, 69, 82] = none from rfl]
  dsimp only
  rw [show numsK [72, 69, 65, 68, 69, 82] = 0 from rfl, if_neg (by decide)]
  unfold moreK
  rw [if_neg (by decide), if_neg (by decide), if_neg (by decide), if_neg (by decide), if_pos rfl]
  unfold hdK
  cases wordK l <;> rfl
theorem plain_BODY {f : List Wd → Nat → KeyE} {w : List UInt8} (h : greatL w = [66, 79, 68, 89]) (l : List Wd) (n : Nat) : plainK f w l n = textK 4 l n := by
  unfold plainK
  rw [h]
  rfl
theorem plain_TEXT {f : List Wd → Nat → KeyE} {w : List UInt8} (h : greatL w = [84, 69, 88, 84]) (l : List Wd) (n : Nat) : plainK f w l n = textK 5 l n := by
  unfold plainK
  rw [h]
  rfl
theorem plain_LARGER {f : List Wd → Nat → KeyE} {w : List UInt8} (h : greatL w = [76, 65, 82, 71, 69, 82]) (l : List Wd) (n : Nat) : plainK f w l n = numWK 6 l n := by
  unfold plainK
  rw [h]
  rw [show sysK [76, 65, 82, 71, 69, 82] = none from rfl]
  dsimp only
  rw [show numsK [76, 65, 82, 71, 69, 82] = 6 from rfl, if_pos (by decide)]
  unfold numWK
  cases numberK l <;> rfl
theorem plain_SMALLER {f : List Wd → Nat → KeyE} {w : List UInt8} (h : greatL w = [83, 77, 65, 76, 76, 69, 82]) (l : List Wd) (n : Nat) : plainK f w l n = numWK 7 l n := by
  unfold plainK
  rw [h]
  rw [show sysK [83, 77, 65, 76, 76, 69, 82] = none from rfl]
  dsimp only
  rw [show numsK [83, 77, 65, 76, 76, 69, 82] = 7 from rfl, if_pos (by decide)]
  unfold numWK
  cases numberK l <;> rfl
theorem plain_BEFORE {f : List Wd → Nat → KeyE} {w : List UInt8} (h : greatL w = [66, 69, 70, 79, 82, 69]) (l : List Wd) (n : Nat) : plainK f w l n = numWK 8 l n := by
  unfold plainK
  rw [h]
  rw [show sysK [66, 69, 70, 79, 82, 69] = none from rfl]
  dsimp only
  rw [show numsK [66, 69, 70, 79, 82, 69] = 8 from rfl, if_pos (by decide)]
  unfold numWK
  cases numberK l <;> rfl
theorem plain_ON {f : List Wd → Nat → KeyE} {w : List UInt8} (h : greatL w = [79, 78]) (l : List Wd) (n : Nat) : plainK f w l n = numWK 9 l n := by
  unfold plainK
  rw [h]
  rw [show sysK [79, 78] = none from rfl]
  dsimp only
  rw [show numsK [79, 78] = 9 from rfl, if_pos (by decide)]
  unfold numWK
  cases numberK l <;> rfl
theorem plain_SINCE {f : List Wd → Nat → KeyE} {w : List UInt8} (h : greatL w = [83, 73, 78, 67, 69]) (l : List Wd) (n : Nat) : plainK f w l n = numWK 10 l n := by
  unfold plainK
  rw [h]
  rw [show sysK [83, 73, 78, 67, 69] = none from rfl]
  dsimp only
  rw [show numsK [83, 73, 78, 67, 69] = 10 from rfl, if_pos (by decide)]
  unfold numWK
  cases numberK l <;> rfl
theorem plain_UID {f : List Wd → Nat → KeyE} {w : List UInt8} (h : greatL w = [85, 73, 68]) (l : List Wd) (n : Nat) : plainK f w l n = uidK l n := by
  unfold plainK
  rw [h]
  rw [show sysK [85, 73, 68] = none from rfl]
  dsimp only
  rw [show numsK [85, 73, 68] = 0 from rfl, if_neg (by decide)]
  unfold moreK
  rw [if_neg (by decide), if_neg (by decide), if_neg (by decide), if_neg (by decide), if_neg (by decide), if_neg (by decide), if_neg (by decide), if_pos rfl]
  unfold uidK
  cases wordK l <;> rfl
theorem plain_NOT {f : List Wd → Nat → KeyE} {w : List UInt8} (h : greatL w = [78, 79, 84]) (l : List Wd) (n : Nat) : plainK f w l n = notR (f l n) := by
  unfold plainK
  rw [h]
  rw [show sysK [78, 79, 84] = none from rfl]
  dsimp only
  rw [show numsK [78, 79, 84] = 0 from rfl, if_neg (by decide)]
  unfold moreK
  rw [if_neg (by decide), if_neg (by decide), if_neg (by decide), if_neg (by decide), if_neg (by decide), if_neg (by decide), if_neg (by decide), if_neg (by decide), if_pos rfl]
  unfold notR
  cases f l n <;> rfl
theorem plain_OR {d : Nat} {w : List UInt8} (h : greatL w = [79, 82]) (l : List Wd) (n : Nat) : plainK (keyK d) w l n = orR d (keyK d l n) := by
  unfold plainK
  rw [h]
  rw [show sysK [79, 82] = none from rfl]
  dsimp only
  rw [show numsK [79, 82] = 0 from rfl, if_neg (by decide)]
  unfold moreK
  rw [if_neg (by decide), if_neg (by decide), if_neg (by decide), if_neg (by decide), if_neg (by decide), if_neg (by decide), if_neg (by decide), if_neg (by decide), if_neg (by decide), if_pos rfl]
  unfold orR
  cases keyK d l n <;> rfl
theorem plain_other {f : List Wd → Nat → KeyE} {w U : List UInt8} (h : greatL w = U) (hU : ∀ x ∈ wordsAll, U ≠ x) (l : List Wd) (n : Nat) : plainK f w l n = setWK w l n := by
  have ne : ∀ x, x ∈ wordsAll → ¬ U = x := hU
  have hs : sysK U = none := by
    unfold sysK
    rw [if_neg]
    intro hm
    by_cases hp : Lib.hasPrefix U [85, 78] = true
    · unfold unK at hm
      rw [if_pos hp] at hm
      unfold Lib.hasPrefix at hp
      obtain ⟨r, hr⟩ := List.isPrefixOf_iff_prefix.1 hp
      have hd : U.drop 2 = r := by rw [← hr]; rfl
      dsimp only at hm
      rw [hd] at hm
      have h2 : ∀ r ∈ wordsL, [85, 78] ++ r ∈ wordsAll := by decide
      exact hU _ (h2 r hm) hr.symm
    · unfold unK at hm
      rw [if_neg hp] at hm
      have h2 : ∀ r ∈ wordsL, r ∈ wordsAll := by decide
      exact hU _ (h2 U hm) rfl
  have hn : numsK U = 0 := by
    unfold numsK
    rw [if_neg (ne _ (by decide)), if_neg (ne _ (by decide)), if_neg (ne _ (by decide)), if_neg (ne _ (by decide)), if_neg (ne _ (by decide))]
  unfold plainK
  rw [h, hs]
  dsimp only
  rw [hn, if_neg (by decide)]
  unfold moreK
  rw [if_neg (fun h => h.elim (ne _ (by decide)) (fun h => h.elim (ne _ (by decide)) (fun h => h.elim (ne _ (by decide)) (ne _ (by decide))))), if_neg (ne _ (by decide)), if_neg (ne _ (by decide)), if_neg (ne _ (by decide)), if_neg (ne _ (by decide)), if_neg (ne _ (by decide)), if_neg (ne _ (by decide)), if_neg (ne _ (by decide)), if_neg (ne _ (by decide)), if_neg (ne _ (by decide))]
  unfold setWK
  cases parseS w <;> rfl
/-- key at a word -/
theorem rkey_word (D B K m : Nat) (hD : D ≤ 7) (hm : m ≤ 60) (a : Option Addr) (c : Nat) (t : Wd) (l : List Wd) (w : World) (h : KsC w K (m : Int) 0) (hw : WordsL w (fun j => j < B) (.slice a (t :: l).length c) (t :: l)) (hB : B ≤ K) (h60 : m + 1 ≤ 60) (h6 : D ≤ 6) (hk : t.kind ≠ 3) (d : Nat) (IH : KeySpec d (D + 1)) (hG : GW K w) :
    Calls Tryz.prog 45 #[.pointer (some ⟨K, 0, none⟩), .slice a (t :: l).length c, .int .i64 (D : Int)] w (RKS B K (plainK (keyK d) t.text l (m + 1)) 0 w) := by
  by_cases q0 : greatL t.text = [65, 76, 76]
  · rw [plain_ALL q0]
    exact rkey_ALL D B K m hD hm a c t l w h hw hB h60 h6 hk q0
  by_cases q1 : greatL t.text = [83, 69, 69, 78]
  · rw [plain_SEEN q1]
    exact rkey_SEEN D B K m hD hm a c t l w h hw hB h60 h6 hk q1
  by_cases q2 : greatL t.text = [65, 78, 83, 87, 69, 82, 69, 68]
  · rw [plain_ANSWERED q2]
    exact rkey_ANSWERED D B K m hD hm a c t l w h hw hB h60 h6 hk q2
  by_cases q3 : greatL t.text = [70, 76, 65, 71, 71, 69, 68]
  · rw [plain_FLAGGED q3]
    exact rkey_FLAGGED D B K m hD hm a c t l w h hw hB h60 h6 hk q3
  by_cases q4 : greatL t.text = [68, 69, 76, 69, 84, 69, 68]
  · rw [plain_DELETED q4]
    exact rkey_DELETED D B K m hD hm a c t l w h hw hB h60 h6 hk q4
  by_cases q5 : greatL t.text = [68, 82, 65, 70, 84]
  · rw [plain_DRAFT q5]
    exact rkey_DRAFT D B K m hD hm a c t l w h hw hB h60 h6 hk q5
  by_cases q6 : greatL t.text = [85, 78, 83, 69, 69, 78]
  · rw [plain_UNSEEN q6]
    exact rkey_UNSEEN D B K m hD hm a c t l w h hw hB h60 h6 hk q6
  by_cases q7 : greatL t.text = [85, 78, 65, 78, 83, 87, 69, 82, 69, 68]
  · rw [plain_UNANSWERED q7]
    exact rkey_UNANSWERED D B K m hD hm a c t l w h hw hB h60 h6 hk q7
  by_cases q8 : greatL t.text = [85, 78, 70, 76, 65, 71, 71, 69, 68]
  · rw [plain_UNFLAGGED q8]
    exact rkey_UNFLAGGED D B K m hD hm a c t l w h hw hB h60 h6 hk q8
  by_cases q9 : greatL t.text = [85, 78, 68, 69, 76, 69, 84, 69, 68]
  · rw [plain_UNDELETED q9]
    exact rkey_UNDELETED D B K m hD hm a c t l w h hw hB h60 h6 hk q9
  by_cases q10 : greatL t.text = [85, 78, 68, 82, 65, 70, 84]
  · rw [plain_UNDRAFT q10]
    exact rkey_UNDRAFT D B K m hD hm a c t l w h hw hB h60 h6 hk q10
  by_cases q11 : greatL t.text = [75, 69, 89, 87, 79, 82, 68]
  · rw [plain_KEYWORD q11]
    exact rkey_KEYWORD D B K m hD hm a c t l w h hw hB h60 h6 hk q11
  by_cases q12 : greatL t.text = [85, 78, 75, 69, 89, 87, 79, 82, 68]
  · rw [plain_UNKEYWORD q12]
    exact rkey_UNKEYWORD D B K m hD hm a c t l w h hw hB h60 h6 hk q12
  by_cases q13 : greatL t.text = [70, 82, 79, 77]
  · rw [plain_FROM q13]
    exact rkey_FROM D B K m hD hm a c t l w h hw hB h60 h6 hk q13
  by_cases q14 : greatL t.text = [84, 79]
  · rw [plain_TO q14]
    exact rkey_TO D B K m hD hm a c t l w h hw hB h60 h6 hk q14
  by_cases q15 : greatL t.text = [83, 85, 66, 74, 69, 67, 84]
  · rw [plain_SUBJECT q15]
    exact rkey_SUBJECT D B K m hD hm a c t l w h hw hB h60 h6 hk q15
  by_cases q16 : greatL t.text = [67, 67]
  · rw [plain_CC q16]
    exact rkey_CC D B K m hD hm a c t l w h hw hB h60 h6 hk q16
  by_cases q17 : greatL t.text = [72, 69, 65, 68, 69, 82]
  · rw [plain_HEADER q17]
    exact rkey_HEADER D B K m hD hm a c t l w h hw hB h60 h6 hk q17
  by_cases q18 : greatL t.text = [66, 79, 68, 89]
  · rw [plain_BODY q18]
    exact rkey_BODY D B K m hD hm a c t l w h hw hB h60 h6 hk q18
  by_cases q19 : greatL t.text = [84, 69, 88, 84]
  · rw [plain_TEXT q19]
    exact rkey_TEXT D B K m hD hm a c t l w h hw hB h60 h6 hk q19
  by_cases q20 : greatL t.text = [76, 65, 82, 71, 69, 82]
  · rw [plain_LARGER q20]
    exact rkey_LARGER D B K m hD hm a c t l w h hw hB h60 h6 hk hG q20
  by_cases q21 : greatL t.text = [83, 77, 65, 76, 76, 69, 82]
  · rw [plain_SMALLER q21]
    exact rkey_SMALLER D B K m hD hm a c t l w h hw hB h60 h6 hk hG q21
  by_cases q22 : greatL t.text = [66, 69, 70, 79, 82, 69]
  · rw [plain_BEFORE q22]
    exact rkey_BEFORE D B K m hD hm a c t l w h hw hB h60 h6 hk hG q22
  by_cases q23 : greatL t.text = [79, 78]
  · rw [plain_ON q23]
    exact rkey_ON D B K m hD hm a c t l w h hw hB h60 h6 hk hG q23
  by_cases q24 : greatL t.text = [83, 73, 78, 67, 69]
  · rw [plain_SINCE q24]
    exact rkey_SINCE D B K m hD hm a c t l w h hw hB h60 h6 hk hG q24
  by_cases q25 : greatL t.text = [85, 73, 68]
  · rw [plain_UID q25]
    exact rkey_UID D B K m hD hm a c t l w h hw hB h60 h6 hk hG q25
  by_cases q26 : greatL t.text = [78, 79, 84]
  · rw [plain_NOT q26]
    exact rkey_NOT D B K m hD hm a c t l w h hw hB h60 h6 hk d IH hG q26
  by_cases q27 : greatL t.text = [79, 82]
  · rw [plain_OR q27]
    exact rkey_OR D B K m hD hm a c t l w h hw hB h60 h6 hk d IH (key_step d) hG q27
  have hU : ∀ x ∈ wordsAll, greatL t.text ≠ x := by
    intro x hx
    unfold wordsAll at hx
    simp only [List.mem_cons, List.not_mem_nil, or_false] at hx
    rcases hx with rfl | rfl | rfl | rfl | rfl | rfl | rfl | rfl | rfl | rfl | rfl | rfl | rfl | rfl | rfl | rfl | rfl | rfl | rfl | rfl | rfl | rfl | rfl | rfl | rfl | rfl | rfl | rfl <;> assumption
  rw [plain_other rfl hU]
  exact rkey_set D B K m hD hm a c t l w h hw hB h60 h6 hk hG _ rfl hU
theorem rkey_any : ∀ (d D : Nat), d + D = 7 → KeySpec d D
  | 0, D, h => by
    obtain rfl : D = 7 := by omega
    intro B K n e m a c l w hks hw hB hm hG
    by_cases he : e = 0
    · subst he
      obtain ⟨rfl, hm1⟩ := hm rfl
      rw [keyK_zero]
      exact rkey_lim 7 B K m (by decide) hm1 a c l w hks hw hB (Or.inr (by decide))
    · exact rkey_off _ 7 B K (by decide) n e a c l w hks hw hB he
  | d + 1, D, h => by
    have IH := rkey_any d (D + 1) (by omega)
    intro B K n e m a c l w hks hw hB hm hG
    by_cases he : e = 0
    · subst he
      obtain ⟨rfl, hm1⟩ := hm rfl
      by_cases h60 : 60 < m + 1
      · have hk4 : keyK (d + 1) l m = .error 4 := by
          cases l with
          | nil => rw [keyK_nil, if_pos h60]
          | cons t l => rw [keyK_cons, if_pos h60]
        rw [hk4]
        exact rkey_lim D B K m (by omega) hm1 a c l w hks hw hB (Or.inl (by omega))
      · cases l with
        | nil =>
          rw [keyK_nil, if_neg h60]
          exact rkey_nil D B K m (by omega) hm1 a c w hks hw hB (by omega) (by omega)
        | cons t l =>
          rw [keyK_cons, if_neg h60]
          by_cases hk : t.kind = 3
          · rw [if_pos hk]
            have := rkey_list D B K m (by omega) hm1 a c t l w hks hw hB (by omega) (by omega) hk d IH hG
            generalize keysK (keyK d) t.list (m + 1) = X at this ⊢
            cases X <;> exact this
          · rw [if_neg hk]
            exact rkey_word D B K m (by omega) hm1 a c t l w hks hw hB (by omega) (by omega) hk d IH hG
    · exact rkey_off _ D B K (by omega) n e a c l w hks hw hB he
end Go.Proofs.YtcahhnjponeeeaaGreatDoor
namespace Go.Proofs.YtcahhnjponeeeaaGreatDoor
open Go.RowKit Go.Shelf Go.Sort
set_option linter.unusedSimpArgs false
/-- what ParseKeys returns -/
def PKeysS (l : List Wd) (w : World) (x : Ending) (w' : World) : Prop := match parseK l with
  | .error E => x = .returned (.tuple #[.agg zero6, .int .i64 (E : Int)]) ∧ 0 < E ∧ Below w.heap.size w w'
  | .ok k => ∃ cs : List Value, x = .returned (.tuple #[.agg cs.toArray, .int .i64 0]) ∧ Hid (KeyC w' (fun j => w.heap.size ≤ j) cs k) ∧ Below w.heap.size w w'
theorem gw_of {w w1 : World} {K : Nat} (hS : StrG w) (hM : MaxG w) (y : Below w.heap.size w w1) (hK : w.heap.size ≤ K) : GW K w1 := fun W hk =>
  have hb : Below w.heap.size w W := y.trans (hk.below y.size (fun k e => by have : k = K := e; omega))
  ⟨hS.below hb, hM.below hb⟩
theorem parseK_keys (l : List Wd) : parseK l = match keysK (keyK 7) l 0 with | .error e => .error e | .ok (k, _) => .ok k := rfl
theorem pk_results {w W : World} (hres : W.heap[w.heap.size]? = some (.cells zero6 32 (0, 0))) (hb : Below w.heap.size w W) (x0 x1 x2 x3 x4 x5 : Value) :
    Below w.heap.size w ((((((W.setCell ⟨w.heap.size, 0, none⟩ x0).setCell ⟨w.heap.size, 1, none⟩ x1).setCell ⟨w.heap.size, 2, none⟩ x2).setCell ⟨w.heap.size, 3, none⟩ x3).setCell ⟨w.heap.size, 4, none⟩ x4).setCell ⟨w.heap.size, 5, none⟩ x5) :=
  (ksix_kept (S := fun _ => False) (kept_below hb) (Nat.le_refl _) x0 x1 x2 x3 x4 x5).below (Nat.le_refl _) (fun _ h => h.elim)
set_option linter.constructorNameAsVariable false in
set_option maxRecDepth 100000 in
set_option maxHeartbeats 16000000 in
theorem parseKeys_any (a : Option Addr) (c : Nat) (l : List Wd) (w : World) (hw : WordsL w (fun j => j < w.heap.size) (.slice a l.length c) l) (hS : StrG w) (hM : MaxG w) :
    Calls Tryz.prog 6 #[.slice a l.length c] w (PKeysS l w) := by
  have y1 : Below w.heap.size w ((w.alloc (.cells zero6 32)).alloc (.cells #[.int .i64 0, .int .i64 0] 56)) := ((Below.refl _ _).alloc (Nat.le_refl _) _).alloc (by rw [alloc_size]; omega) _
  have z1 : ((w.alloc (.cells zero6 32)).alloc (.cells #[.int .i64 0, .int .i64 0] 56)).heap[w.heap.size]? = some (.cells zero6 32 (0, 0)) := alloc_same (World.heap_alloc_new w _)
  have k1 := World.heap_alloc_new (w.alloc (.cells zero6 32)) (.cells #[.int .i64 0, .int .i64 0] 56)
  have s1 : ((w.alloc (.cells zero6 32)).alloc (.cells #[.int .i64 0, .int .i64 0] 56)).heap.size = w.heap.size + 2 := by rw [alloc_size, alloc_size]
  rw [alloc_size] at k1
  obtain ⟨w1, hw1⟩ : ∃ w1, (w.alloc (.cells zero6 32)).alloc (.cells #[.int .i64 0, .int .i64 0] 56) = w1 := ⟨_, rfl⟩
  rw [hw1] at y1 z1 k1 s1
  have cA := rall_any 7 0 (by decide) (rkey_any 7 0 rfl) w.heap.size (w.heap.size + 1) 0 a c l w1 k1 (by decide) (hw.under y1) (by omega) (gw_of hS hM y1 (by omega))
  have cA : Calls Tryz.prog 14 #[.pointer (some ⟨w.heap.size + 1, 0, none⟩), .slice a l.length c, .int .i64 0] w1 fun x w' => ∃ (code : Int) (name text : List UInt8) (kn : Int) (set : List Rg) (keys : List KeyP) (sa ka : Option Addr) (sc kc : Nat) (k : KeyP) (n' e' : Int), x = .returned (.agg #[.int .i64 code, .string ⟨name.toArray⟩, .string ⟨text.toArray⟩, .int .i64 kn, .slice sa set.length sc, .slice ka keys.length kc]) ∧ Hid (KeyC w' (fun j => w.heap.size < j) [.int .i64 code, .string ⟨name.toArray⟩, .string ⟨text.toArray⟩, .int .i64 kn, .slice sa set.length sc, .slice ka keys.length kc] k) ∧ Hid (KsC w' (w.heap.size + 1) n' e') ∧ Hid (w'.heap[w.heap.size]? = some (.cells zero6 32 (0, 0))) ∧ Hid (Below w.heap.size w w') ∧ Hid (match keysK (keyK 7) l 0 with | .ok (k0, n0) => k = k0 ∧ n' = (n0 : Int) ∧ e' = 0 | .error E => e' = (E : Int) ∧ 0 < E) := cA.mono (by
    rintro x w' ⟨cs, k, n', e', rfl, hkc, hks, hkk, hr⟩
    obtain ⟨code, name, text, kn, set, keys, sa, ka, sc, kc, rfl⟩ := hkc.out.six
    exact ⟨code, name, text, kn, set, keys, sa, ka, sc, kc, k, n', e', rfl, Lib.hid (hkc.out.keep (Nat.le_refl _) (fun _ _ _ => rfl) (fun j hj _ => by have : w1.heap.size ≤ j := hj; omega)), hks, Lib.hid (hkk.out.obj z1 (fun e => by have : w.heap.size = w.heap.size + 1 := e; omega)), Lib.hid (y1.trans (hkk.out.below y1.size (fun j e => by have : j = w.heap.size + 1 := e; omega))), hr⟩)
  unfold PKeysS
  rw [parseK_keys]
  clear y1 z1 k1 s1 hw hS hM
  have HW := Lib.hid hw1
  clear hw1
  cases hk : keysK (keyK 7) l 0 with
  | error E =>
    rw [hk] at cA
    dsimp only at cA ⊢
    clear hk
    go_enter Tryz.func6, Tryz.ntmps6
    go_upto_region 2 with fail
    rw [show (w.alloc (.cells #[.int .i64 0, .string ⟨#[]⟩, .string ⟨#[]⟩, .int .i64 0, .slice none 0 0, .slice none 0 0] 32)).alloc (.cells #[.int .i64 0, .int .i64 0] 56) = w1 from HW.out]
    go_upto_region 3 with (go_at_call 14; go_loud (((with_reducible refine cA.mono ?_); rintro e4 w2 ⟨code, name, text, kn, set, keys, sa, ka, sc, kc, k, n', e', rfl, hkc, hks, hres, hb, hr⟩)))
    obtain ⟨e1, hE⟩ := hr.out
    have y3 : Below w2.heap.size w2 (w2.alloc (.cells #[.int .i64 code, .string ⟨name.toArray⟩, .string ⟨text.toArray⟩, .int .i64 kn, .slice sa set.length sc, .slice ka keys.length kc] 32)) := (Below.refl _ _).alloc (Nat.le_refl _) _
    generalize w2.alloc (.cells #[.int .i64 code, .string ⟨name.toArray⟩, .string ⟨text.toArray⟩, .int .i64 kn, .slice sa set.length sc, .slice ka keys.length kc] 32) = w3 at *
    have hres3 := below_same y3 hres.out
    have hb3 := Lib.hid (hb.out.trans (y3.mono hb.out.size))
    obtain ⟨c0, c1⟩ := two_cellsK (below_same y3 hks.out)
    subst e1
    have e2 : ¬ ((E : Int) = 0) := by omega
    have e3 : ((E : Int) == 0) = false := by rw [beq_eq_false_iff_ne]; exact e2
    have e4 : ((E : Int) != 0) = true := by rw [bne_iff_ne]; exact e2
    clear hr hks hkc hres
    go_upto_region 4 with fail
    have yd := (Below.refl w3.heap.size w3).drew
    have hresd := below_same yd hres3
    have hbd := Lib.hid (hb3.out.trans (yd.mono hb3.out.size))
    have c1d : w3.drew.cell? ⟨w.heap.size + 1, 1, none⟩ = some (.int .i64 (E : Int)) := c1
    have hS1 : (fun _ : World => True) w3.drew := trivial
    have hS0 : (fun W : World => W.cell? ⟨w.heap.size + 1, 1, none⟩ = some (.int .i64 (E : Int))) w3.drew := c1d
    clear yd hres3 c0 c1 y3 e2 e3 e4
    refine until_start (S := fun _ => True) (S0 := fun W => W.cell? ⟨w.heap.size + 1, 1, none⟩ = some (.int .i64 (E : Int))) (t := 5) (by kernel_rfl) ?_
    generalize w3.drew = wd at *
    obtain ⟨r0, r1, r2, r3, r4, r5⟩ := ksix_cells hresd
    have fz := Lib.frozen_of_heap hresd
    have HR3 := Lib.hid hresd
    clear hresd
    refine until_take0 (i := 0) (v := ?v0) rfl (by kernel_rfl) (by kernel_rfl) (by kernel_rfl) (by rfl) (fun _ _ _ h => h) (Or.inl ⟨by rfl, ?y0⟩) hS0 (fun _ => hS1) ?r0
    case y0 => (intro W hSw; (try dsimp only at hSw); go_simp; try with_reducible rfl)
    try simp only [Act.put, List.setIfInBounds_toArray, List.set_cons_zero, List.set_cons_succ]
    refine until_take0 (i := 1) (v := ?v1) rfl (by kernel_rfl) (by kernel_rfl) (by kernel_rfl) (by rfl) (fun _ _ _ h => h) (Or.inl ⟨by rfl, ?y1⟩) hS0 (fun _ => hS1) ?r1
    case y1 => (intro W hSw; (try dsimp only at hSw); go_simp; try with_reducible rfl)
    try simp only [Act.put, List.setIfInBounds_toArray, List.set_cons_zero, List.set_cons_succ]
    refine until_take0 (i := 2) (v := ?v2) rfl (by kernel_rfl) (by kernel_rfl) (by kernel_rfl) (by rfl) (fun _ _ _ h => h) (Or.inl ⟨by rfl, ?y2⟩) hS0 (fun _ => hS1) ?r2
    case y2 => (intro W hSw; (try dsimp only at hSw); go_simp; try with_reducible rfl)
    try simp only [Act.put, List.setIfInBounds_toArray, List.set_cons_zero, List.set_cons_succ]
    refine until_take0 (i := 3) (v := ?v3) rfl (by kernel_rfl) (by kernel_rfl) (by kernel_rfl) (by rfl) (fun _ _ _ h => h) (Or.inl ⟨by rfl, ?y3⟩) hS0 (fun _ => hS1) ?r3
    case y3 => (intro W hSw; (try dsimp only at hSw); go_simp; try with_reducible rfl)
    try simp only [Act.put, List.setIfInBounds_toArray, List.set_cons_zero, List.set_cons_succ]
    refine until_take0 (i := 4) (v := ?v4) rfl (by kernel_rfl) (by kernel_rfl) (by kernel_rfl) (by rfl) (fun _ _ _ h => h) (Or.inl ⟨by rfl, ?y4⟩) hS0 (fun _ => hS1) ?r4
    case y4 => (intro W hSw; (try dsimp only at hSw); go_simp; try with_reducible rfl)
    try simp only [Act.put, List.setIfInBounds_toArray, List.set_cons_zero, List.set_cons_succ]
    refine until_step (i := 5) (by kernel_rfl) rfl (fun K' hK => ?_)
    go_simp
    refine hK.out _ _ ((World.cell?_of_block (w := wd) (a := ⟨w.heap.size + 1, 1, none⟩) (ksix_heap wd (U := w.heap.size) _ _ _ _ _ _ (w.heap.size + 1) (by omega))).trans c1d) (fun _ _ => trivial) ?_
    clear hK K'
    try simp only [Act.put, List.setIfInBounds_toArray, List.set_cons_zero, List.set_cons_succ]
    refine until_step (i := 6) (by kernel_rfl) rfl (fun K' hK => ?_)
    go_simp
    refine hK.out _ _ ((World.cell?_of_block (w := wd) (a := ⟨w.heap.size + 1, 1, none⟩) (ksix_heap wd (U := w.heap.size) _ _ _ _ _ _ (w.heap.size + 1) (by omega))).trans c1d) (fun _ _ => trivial) ?_
    clear hK K'
    try simp only [Act.put, List.setIfInBounds_toArray, List.set_cons_zero, List.set_cons_succ]
    refine until_done (by kernel_rfl) ?_ _
    go_wp2_with fail
    refine bodyPost_ret (results_cell_tmp (P := Tryz.prog) rfl _ _ w.heap.size _ _ _ _ _ rfl (kset_six HR3.out _ _ _ _ _ _) rfl Tryz.underlying32 rfl key_size) rfl ?_
    exact ⟨rfl, hE, pk_results HR3.out hbd.out _ _ _ _ _ _⟩
  | ok z =>
    obtain ⟨k0, n0⟩ := z
    rw [hk] at cA
    dsimp only at cA ⊢
    clear hk
    go_enter Tryz.func6, Tryz.ntmps6
    go_upto_region 2 with fail
    rw [show (w.alloc (.cells #[.int .i64 0, .string ⟨#[]⟩, .string ⟨#[]⟩, .int .i64 0, .slice none 0 0, .slice none 0 0] 32)).alloc (.cells #[.int .i64 0, .int .i64 0] 56) = w1 from HW.out]
    go_upto_region 3 with (go_at_call 14; go_loud (((with_reducible refine cA.mono ?_); rintro e4 w2 ⟨code, name, text, kn, set, keys, sa, ka, sc, kc, k, n', e', rfl, hkc, hks, hres, hb, hr⟩)))
    obtain ⟨ek, -, e1⟩ := hr.out
    have y3 : Below w2.heap.size w2 (w2.alloc (.cells #[.int .i64 code, .string ⟨name.toArray⟩, .string ⟨text.toArray⟩, .int .i64 kn, .slice sa set.length sc, .slice ka keys.length kc] 32)) := (Below.refl _ _).alloc (Nat.le_refl _) _
    have z3 := World.heap_alloc_new w2 (.cells #[.int .i64 code, .string ⟨name.toArray⟩, .string ⟨text.toArray⟩, .int .i64 kn, .slice sa set.length sc, .slice ka keys.length kc] 32)
    generalize w2.alloc (.cells #[.int .i64 code, .string ⟨name.toArray⟩, .string ⟨text.toArray⟩, .int .i64 kn, .slice sa set.length sc, .slice ka keys.length kc] 32) = w3 at *
    have hres3 := below_same y3 hres.out
    have hb3 := Lib.hid (hb.out.trans (y3.mono hb.out.size))
    have hkc3 := Lib.hid (hkc.out.keep (ok' := fun j => w.heap.size < j) y3.size (fun j _ hl => y3.block j hl) (fun j hj _ => hj))
    obtain ⟨c0, c1⟩ := two_cellsK (below_same y3 hks.out)
    obtain ⟨q0, q1, q2, q3, q4, q5⟩ := ksix_cells z3
    subst e1
    subst ek
    obtain ⟨r0, r1, r2, r3, r4, r5⟩ := ksix_cells hres3
    have fz := Lib.frozen_of_heap hres3
    have HR3 := Lib.hid hres3
    clear hr hks hkc hres z3
    go_wp2_with fail
    refine bodyPost_ret (results_cell_tmp (P := Tryz.prog) rfl _ _ w.heap.size _ _ _ _ _ rfl (kset_six HR3.out _ _ _ _ _ _) rfl Tryz.underlying32 rfl key_size) rfl ?_
    exact ⟨[.int .i64 code, .string ⟨name.toArray⟩, .string ⟨text.toArray⟩, .int .i64 kn, .slice sa set.length sc, .slice ka keys.length kc], rfl, Lib.hid (hkc3.out.keep (by rw [ksix_size]; exact Nat.le_refl _) (fun j hj _ => ksix_heap _ _ _ _ _ _ _ _ (by have : w.heap.size < j := hj; omega)) (fun j hj _ => Nat.le_of_lt hj)), pk_results HR3.out hb3.out _ _ _ _ _ _⟩
end Go.Proofs.YtcahhnjponeeeaaGreatDoor
