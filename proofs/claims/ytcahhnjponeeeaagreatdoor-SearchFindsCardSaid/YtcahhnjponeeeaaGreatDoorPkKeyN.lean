/- The walk over the reference's key at a word: ALL, a system's flag. Conditions: those that key's contract names. The walk over the reference's key at a word: what is not flagged so; a head's field. Conditions: those that key's contract names. The walk over the reference's key at a word: a flag by its name, any head's field, a set of numbers for ever. Conditions: those that key's contract names. The walk over the reference's key at a word: numbers for ever. Conditions: those that key's contract names. The walk over the reference's key at a word: numbers as they stand. Conditions: those that key's contract names. The walk over the reference's key at a word: NOT. Conditions: those that key's contract names. The walk over the reference's key at a word: OR. Conditions: those that key's contract names. The walk over the reference's key at a word: UNKEYWORD. Conditions: those that key's contract names. -/
import Derived.Test.YtcahhnjponeeeaaGreatDoorPkKeyF
namespace Go.Proofs.YtcahhnjponeeeaaGreatDoor
open Go.RowKit Go.Shelf Go.Sort
set_option linter.unusedSimpArgs false
set_option linter.constructorNameAsVariable false in
set_option maxRecDepth 100000 in
set_option maxHeartbeats 16000000 in
theorem rkey_ALL (D B K m : Nat) (hD : D ≤ 7) (hm : m ≤ 60) (a : Option Addr) (c : Nat) (t : Wd) (l : List Wd) (w : World) (h : KsC w K (m : Int) 0) (hw : WordsL w (fun j => j < B) (.slice a (t :: l).length c) (t :: l)) (hB : B ≤ K) (h60 : m + 1 ≤ 60) (h6 : D ≤ 6) (hk : t.kind ≠ 3) (hS : greatL t.text = [65, 76, 76]) :
    Calls Tryz.prog 45 #[.pointer (some ⟨K, 0, none⟩), .slice a (t :: l).length c, .int .i64 (D : Int)] w (RKS B K (.ok (.mk 1 [] [] 0 [] [], l, m + 1)) 0 w) := by
  have hKl : K < w.heap.size := (Array.getElem?_eq_some_iff.1 h).1
  have hst := kyR_start h hw hB ((m : Int) + 1)
  obtain ⟨c0, c1⟩ := two_cellsK (below_same ((Below.refl _ w).alloc (Nat.le_refl _) (.cells zero6 32)) h)
  have fz := Lib.frozen_of_heap (below_same ((Below.refl _ w).alloc (Nat.le_refl _) (.cells zero6 32)) h)
  go_enter Tryz.func45, Tryz.ntmps45
  go_upto_region 2 with fail
  obtain ⟨w1, hw1⟩ : ∃ w1, (w.setCell ⟨K, 0, none⟩ (.int .i64 ((m : Int) + 1))).alloc (.cells #[.int .i64 0, .string ⟨#[]⟩, .string ⟨#[]⟩, .int .i64 0, .slice none 0 0, .slice none 0 0] 32) = w1 := ⟨_, rfl⟩
  rw [hw1]
  have hst : KyR w B K ((m : Int) + 1) 0 (.slice a (t :: l).length c) (t :: l) w1 := hw1 ▸ hst
  clear hw1 c0 c1 fz
  obtain ⟨c0, c1⟩ := two_cellsK hst.ks
  have cW0 := kword_any K B ((m : Int) + 1) 0 a c (t :: l) w1 hst.ks hst.words hB
  obtain ⟨g, off, va, vc, rfl, -, hc1, hc2, hg, x0, x1, x2, ht, hl1, hl2⟩ := hst.words.cons
  have h1 : ¬ (60 : Int) < (m : Int) + 1 := by omega
  have h2 : ¬ (6 : Int) < (D : Int) := by omega
  have hkd : decide (t.kind = 3) = false := decide_eq_false hk
  have hkb : (t.kind == 3) = false := by rw [beq_eq_false_iff_ne]; exact hk
  have hwk : wordK (t :: l) = .ok (t.text, l) := by rw [wordK, if_neg hk]
  have cW : Calls Tryz.prog 70 #[.pointer (some ⟨K, 0, none⟩), .slice (some ⟨g, off, none⟩) (l.length + 1) c] w1 fun x w' => ∃ (a2 : Option Addr) (c2 : Nat), x = .returned (.tuple #[.string ⟨t.text.toArray⟩, .slice a2 l.length c2]) ∧ Hid (KyR w B K ((m : Int) + 1) 0 (.slice a2 l.length c2) l w') := cW0.mono (by
    rintro x w' ⟨s, a2, c2, l', e', rfl, hs, hwd, hks, hkk, hd⟩
    rcases hd.out with ⟨h, rfl⟩ | ⟨h, _⟩
    · rw [hwk] at h
      cases h
      exact ⟨a2, c2, rfl, hst.next hkk.out hks.out hwd.out⟩
    · rw [hwk] at h; cases h)
  have cGr := fun W => rgreat_any t.text W (by omega)
  rw [hS] at cGr
  clear cW0 hl1 hl2 x1 x2 hst h hw hk hwk hS
  go_wp2_with (first
    | (go_at_call 70; (((with_reducible refine cW.mono ?_); rintro e4 w2 ⟨a2, c2, rfl, HS2⟩; obtain ⟨d0, d1⟩ := two_cellsK HS2.out.ks)))
    | (go_at_call 42; (((with_reducible refine (cGr w2).mono ?_); rintro e4 w3 ⟨rfl, hb3⟩; have HS := HS2.out.under hb3; clear d0 d1; obtain ⟨d0, d1⟩ := two_cellsK HS.ks; obtain ⟨r0, r1, r2, r3, r4, r5⟩ := ksix_cells HS.res; have fz := Lib.frozen_of_heap HS.res))))
  exact HS.done (r := .ok (.mk 1 [] [] 0 [] [], l, m + 1)) (e0 := 0) hKl hB (k := .mk 1 [] [] 0 [] []) (ax := a2) (cx := c2) (lx := l) (keyC_leaf _ _ 1 [] [] 0 (by decide) (by decide)) HS.words (fun _ => ⟨rfl, rfl, rfl, rfl⟩) (fun h => absurd rfl h) rfl rfl rfl
set_option linter.constructorNameAsVariable false in
set_option maxRecDepth 100000 in
set_option maxHeartbeats 16000000 in
theorem rkey_SEEN (D B K m : Nat) (hD : D ≤ 7) (hm : m ≤ 60) (a : Option Addr) (c : Nat) (t : Wd) (l : List Wd) (w : World) (h : KsC w K (m : Int) 0) (hw : WordsL w (fun j => j < B) (.slice a (t :: l).length c) (t :: l)) (hB : B ≤ K) (h60 : m + 1 ≤ 60) (h6 : D ≤ 6) (hk : t.kind ≠ 3) (hS : greatL t.text = [83, 69, 69, 78]) :
    Calls Tryz.prog 45 #[.pointer (some ⟨K, 0, none⟩), .slice a (t :: l).length c, .int .i64 (D : Int)] w (RKS B K (.ok (.mk 2 [92, 83, 101, 101, 110] [] 0 [] [], l, m + 1)) 0 w) := by
  have hKl : K < w.heap.size := (Array.getElem?_eq_some_iff.1 h).1
  have hst := kyR_start h hw hB ((m : Int) + 1)
  obtain ⟨c0, c1⟩ := two_cellsK (below_same ((Below.refl _ w).alloc (Nat.le_refl _) (.cells zero6 32)) h)
  have fz := Lib.frozen_of_heap (below_same ((Below.refl _ w).alloc (Nat.le_refl _) (.cells zero6 32)) h)
  go_enter Tryz.func45, Tryz.ntmps45
  go_upto_region 2 with fail
  obtain ⟨w1, hw1⟩ : ∃ w1, (w.setCell ⟨K, 0, none⟩ (.int .i64 ((m : Int) + 1))).alloc (.cells #[.int .i64 0, .string ⟨#[]⟩, .string ⟨#[]⟩, .int .i64 0, .slice none 0 0, .slice none 0 0] 32) = w1 := ⟨_, rfl⟩
  rw [hw1]
  have hst : KyR w B K ((m : Int) + 1) 0 (.slice a (t :: l).length c) (t :: l) w1 := hw1 ▸ hst
  clear hw1 c0 c1 fz
  obtain ⟨c0, c1⟩ := two_cellsK hst.ks
  have cW0 := kword_any K B ((m : Int) + 1) 0 a c (t :: l) w1 hst.ks hst.words hB
  obtain ⟨g, off, va, vc, rfl, -, hc1, hc2, hg, x0, x1, x2, ht, hl1, hl2⟩ := hst.words.cons
  have h1 : ¬ (60 : Int) < (m : Int) + 1 := by omega
  have h2 : ¬ (6 : Int) < (D : Int) := by omega
  have hkd : decide (t.kind = 3) = false := decide_eq_false hk
  have hkb : (t.kind == 3) = false := by rw [beq_eq_false_iff_ne]; exact hk
  have hwk : wordK (t :: l) = .ok (t.text, l) := by rw [wordK, if_neg hk]
  have cW : Calls Tryz.prog 70 #[.pointer (some ⟨K, 0, none⟩), .slice (some ⟨g, off, none⟩) (l.length + 1) c] w1 fun x w' => ∃ (a2 : Option Addr) (c2 : Nat), x = .returned (.tuple #[.string ⟨t.text.toArray⟩, .slice a2 l.length c2]) ∧ Hid (KyR w B K ((m : Int) + 1) 0 (.slice a2 l.length c2) l w') := cW0.mono (by
    rintro x w' ⟨s, a2, c2, l', e', rfl, hs, hwd, hks, hkk, hd⟩
    rcases hd.out with ⟨h, rfl⟩ | ⟨h, _⟩
    · rw [hwk] at h
      cases h
      exact ⟨a2, c2, rfl, hst.next hkk.out hks.out hwd.out⟩
    · rw [hwk] at h; cases h)
  have cGr := fun W => rgreat_any t.text W (by omega)
  rw [hS] at cGr
  clear cW0 hl1 hl2 x1 x2 hst h hw hk hwk hS
  have hcat : (⟨#[92]⟩ : ByteArray) ++ ⟨#[83, 69, 69, 78]⟩ = ⟨#[92, 83, 69, 69, 78]⟩ := rfl
  have hnf : nameF [92, 83, 69, 69, 78] = .inr [92, 83, 101, 101, 110] := by decide +kernel
  go_wp2_with (first
    | (go_at_call 70; (((with_reducible refine cW.mono ?_); rintro e4 w2 ⟨a2, c2, rfl, HS2⟩; obtain ⟨d0, d1⟩ := two_cellsK HS2.out.ks)))
    | (go_at_call 42; (((with_reducible refine (cGr w2).mono ?_); rintro e4 w3 ⟨rfl, hb3⟩; have HS := HS2.out.under hb3; clear d0 d1; obtain ⟨d0, d1⟩ := two_cellsK HS.ks; have cFl := kflag_any K ((m : Int) + 1) 0 [92, 83, 69, 69, 78] w3 HS.ks (by decide))))
    | (go_at_call 71; (((with_reducible refine cFl.mono ?_); rintro e4 w4 ⟨nm, e', rfl, hks, hkk, hd⟩; have HS4 := HS.next hkk.out hks.out (HS.words.kept hkk.out (fun j hj e => by have : j = K := e; omega)); obtain ⟨r0, r1, r2, r3, r4, r5⟩ := ksix_cells HS4.res; have fz := Lib.frozen_of_heap HS4.res))))
  obtain ⟨rfl, rfl⟩ : nm = [92, 83, 101, 101, 110] ∧ e' = 0 := by
    rcases hd.out with ⟨h, h'⟩ | ⟨E, h, _⟩
    · rw [hnf] at h; cases h; exact ⟨rfl, h'⟩
    · rw [hnf] at h; cases h
  exact HS4.done (r := (.ok (.mk 2 [92, 83, 101, 101, 110] [] 0 [] [], l, m + 1))) (e0 := 0) hKl hB (k := .mk 2 [92, 83, 101, 101, 110] [] 0 [] []) (ax := a2) (cx := c2) (lx := l) (keyC_leaf _ _ 2 _ [] 0 (by decide) (by decide)) HS4.words (fun _ => ⟨rfl, rfl, rfl, rfl⟩) (fun h => absurd rfl h) rfl rfl rfl
set_option linter.constructorNameAsVariable false in
set_option maxRecDepth 100000 in
set_option maxHeartbeats 16000000 in
theorem rkey_ANSWERED (D B K m : Nat) (hD : D ≤ 7) (hm : m ≤ 60) (a : Option Addr) (c : Nat) (t : Wd) (l : List Wd) (w : World) (h : KsC w K (m : Int) 0) (hw : WordsL w (fun j => j < B) (.slice a (t :: l).length c) (t :: l)) (hB : B ≤ K) (h60 : m + 1 ≤ 60) (h6 : D ≤ 6) (hk : t.kind ≠ 3) (hS : greatL t.text = [65, 78, 83, 87, 69, 82, 69, 68]) :
    Calls Tryz.prog 45 #[.pointer (some ⟨K, 0, none⟩), .slice a (t :: l).length c, .int .i64 (D : Int)] w (RKS B K (.ok (.mk 2 [92, 65, 110, 115, 119, 101, 114, 101, 100] [] 0 [] [], l, m + 1)) 0 w) := by
  have hKl : K < w.heap.size := (Array.getElem?_eq_some_iff.1 h).1
  have hst := kyR_start h hw hB ((m : Int) + 1)
  obtain ⟨c0, c1⟩ := two_cellsK (below_same ((Below.refl _ w).alloc (Nat.le_refl _) (.cells zero6 32)) h)
  have fz := Lib.frozen_of_heap (below_same ((Below.refl _ w).alloc (Nat.le_refl _) (.cells zero6 32)) h)
  go_enter Tryz.func45, Tryz.ntmps45
  go_upto_region 2 with fail
  obtain ⟨w1, hw1⟩ : ∃ w1, (w.setCell ⟨K, 0, none⟩ (.int .i64 ((m : Int) + 1))).alloc (.cells #[.int .i64 0, .string ⟨#[]⟩, .string ⟨#[]⟩, .int .i64 0, .slice none 0 0, .slice none 0 0] 32) = w1 := ⟨_, rfl⟩
  rw [hw1]
  have hst : KyR w B K ((m : Int) + 1) 0 (.slice a (t :: l).length c) (t :: l) w1 := hw1 ▸ hst
  clear hw1 c0 c1 fz
  obtain ⟨c0, c1⟩ := two_cellsK hst.ks
  have cW0 := kword_any K B ((m : Int) + 1) 0 a c (t :: l) w1 hst.ks hst.words hB
  obtain ⟨g, off, va, vc, rfl, -, hc1, hc2, hg, x0, x1, x2, ht, hl1, hl2⟩ := hst.words.cons
  have h1 : ¬ (60 : Int) < (m : Int) + 1 := by omega
  have h2 : ¬ (6 : Int) < (D : Int) := by omega
  have hkd : decide (t.kind = 3) = false := decide_eq_false hk
  have hkb : (t.kind == 3) = false := by rw [beq_eq_false_iff_ne]; exact hk
  have hwk : wordK (t :: l) = .ok (t.text, l) := by rw [wordK, if_neg hk]
  have cW : Calls Tryz.prog 70 #[.pointer (some ⟨K, 0, none⟩), .slice (some ⟨g, off, none⟩) (l.length + 1) c] w1 fun x w' => ∃ (a2 : Option Addr) (c2 : Nat), x = .returned (.tuple #[.string ⟨t.text.toArray⟩, .slice a2 l.length c2]) ∧ Hid (KyR w B K ((m : Int) + 1) 0 (.slice a2 l.length c2) l w') := cW0.mono (by
    rintro x w' ⟨s, a2, c2, l', e', rfl, hs, hwd, hks, hkk, hd⟩
    rcases hd.out with ⟨h, rfl⟩ | ⟨h, _⟩
    · rw [hwk] at h
      cases h
      exact ⟨a2, c2, rfl, hst.next hkk.out hks.out hwd.out⟩
    · rw [hwk] at h; cases h)
  have cGr := fun W => rgreat_any t.text W (by omega)
  rw [hS] at cGr
  clear cW0 hl1 hl2 x1 x2 hst h hw hk hwk hS
  have hcat : (⟨#[92]⟩ : ByteArray) ++ ⟨#[65, 78, 83, 87, 69, 82, 69, 68]⟩ = ⟨#[92, 65, 78, 83, 87, 69, 82, 69, 68]⟩ := rfl
  have hnf : nameF [92, 65, 78, 83, 87, 69, 82, 69, 68] = .inr [92, 65, 110, 115, 119, 101, 114, 101, 100] := by decide +kernel
  go_wp2_with (first
    | (go_at_call 70; (((with_reducible refine cW.mono ?_); rintro e4 w2 ⟨a2, c2, rfl, HS2⟩; obtain ⟨d0, d1⟩ := two_cellsK HS2.out.ks)))
    | (go_at_call 42; (((with_reducible refine (cGr w2).mono ?_); rintro e4 w3 ⟨rfl, hb3⟩; have HS := HS2.out.under hb3; clear d0 d1; obtain ⟨d0, d1⟩ := two_cellsK HS.ks; have cFl := kflag_any K ((m : Int) + 1) 0 [92, 65, 78, 83, 87, 69, 82, 69, 68] w3 HS.ks (by decide))))
    | (go_at_call 71; (((with_reducible refine cFl.mono ?_); rintro e4 w4 ⟨nm, e', rfl, hks, hkk, hd⟩; have HS4 := HS.next hkk.out hks.out (HS.words.kept hkk.out (fun j hj e => by have : j = K := e; omega)); obtain ⟨r0, r1, r2, r3, r4, r5⟩ := ksix_cells HS4.res; have fz := Lib.frozen_of_heap HS4.res))))
  obtain ⟨rfl, rfl⟩ : nm = [92, 65, 110, 115, 119, 101, 114, 101, 100] ∧ e' = 0 := by
    rcases hd.out with ⟨h, h'⟩ | ⟨E, h, _⟩
    · rw [hnf] at h; cases h; exact ⟨rfl, h'⟩
    · rw [hnf] at h; cases h
  exact HS4.done (r := (.ok (.mk 2 [92, 65, 110, 115, 119, 101, 114, 101, 100] [] 0 [] [], l, m + 1))) (e0 := 0) hKl hB (k := .mk 2 [92, 65, 110, 115, 119, 101, 114, 101, 100] [] 0 [] []) (ax := a2) (cx := c2) (lx := l) (keyC_leaf _ _ 2 _ [] 0 (by decide) (by decide)) HS4.words (fun _ => ⟨rfl, rfl, rfl, rfl⟩) (fun h => absurd rfl h) rfl rfl rfl
set_option linter.constructorNameAsVariable false in
set_option maxRecDepth 100000 in
set_option maxHeartbeats 16000000 in
theorem rkey_FLAGGED (D B K m : Nat) (hD : D ≤ 7) (hm : m ≤ 60) (a : Option Addr) (c : Nat) (t : Wd) (l : List Wd) (w : World) (h : KsC w K (m : Int) 0) (hw : WordsL w (fun j => j < B) (.slice a (t :: l).length c) (t :: l)) (hB : B ≤ K) (h60 : m + 1 ≤ 60) (h6 : D ≤ 6) (hk : t.kind ≠ 3) (hS : greatL t.text = [70, 76, 65, 71, 71, 69, 68]) :
    Calls Tryz.prog 45 #[.pointer (some ⟨K, 0, none⟩), .slice a (t :: l).length c, .int .i64 (D : Int)] w (RKS B K (.ok (.mk 2 [92, 70, 108, 97, 103, 103, 101, 100] [] 0 [] [], l, m + 1)) 0 w) := by
  have hKl : K < w.heap.size := (Array.getElem?_eq_some_iff.1 h).1
  have hst := kyR_start h hw hB ((m : Int) + 1)
  obtain ⟨c0, c1⟩ := two_cellsK (below_same ((Below.refl _ w).alloc (Nat.le_refl _) (.cells zero6 32)) h)
  have fz := Lib.frozen_of_heap (below_same ((Below.refl _ w).alloc (Nat.le_refl _) (.cells zero6 32)) h)
  go_enter Tryz.func45, Tryz.ntmps45
  go_upto_region 2 with fail
  obtain ⟨w1, hw1⟩ : ∃ w1, (w.setCell ⟨K, 0, none⟩ (.int .i64 ((m : Int) + 1))).alloc (.cells #[.int .i64 0, .string ⟨#[]⟩, .string ⟨#[]⟩, .int .i64 0, .slice none 0 0, .slice none 0 0] 32) = w1 := ⟨_, rfl⟩
  rw [hw1]
  have hst : KyR w B K ((m : Int) + 1) 0 (.slice a (t :: l).length c) (t :: l) w1 := hw1 ▸ hst
  clear hw1 c0 c1 fz
  obtain ⟨c0, c1⟩ := two_cellsK hst.ks
  have cW0 := kword_any K B ((m : Int) + 1) 0 a c (t :: l) w1 hst.ks hst.words hB
  obtain ⟨g, off, va, vc, rfl, -, hc1, hc2, hg, x0, x1, x2, ht, hl1, hl2⟩ := hst.words.cons
  have h1 : ¬ (60 : Int) < (m : Int) + 1 := by omega
  have h2 : ¬ (6 : Int) < (D : Int) := by omega
  have hkd : decide (t.kind = 3) = false := decide_eq_false hk
  have hkb : (t.kind == 3) = false := by rw [beq_eq_false_iff_ne]; exact hk
  have hwk : wordK (t :: l) = .ok (t.text, l) := by rw [wordK, if_neg hk]
  have cW : Calls Tryz.prog 70 #[.pointer (some ⟨K, 0, none⟩), .slice (some ⟨g, off, none⟩) (l.length + 1) c] w1 fun x w' => ∃ (a2 : Option Addr) (c2 : Nat), x = .returned (.tuple #[.string ⟨t.text.toArray⟩, .slice a2 l.length c2]) ∧ Hid (KyR w B K ((m : Int) + 1) 0 (.slice a2 l.length c2) l w') := cW0.mono (by
    rintro x w' ⟨s, a2, c2, l', e', rfl, hs, hwd, hks, hkk, hd⟩
    rcases hd.out with ⟨h, rfl⟩ | ⟨h, _⟩
    · rw [hwk] at h
      cases h
      exact ⟨a2, c2, rfl, hst.next hkk.out hks.out hwd.out⟩
    · rw [hwk] at h; cases h)
  have cGr := fun W => rgreat_any t.text W (by omega)
  rw [hS] at cGr
  clear cW0 hl1 hl2 x1 x2 hst h hw hk hwk hS
  have hcat : (⟨#[92]⟩ : ByteArray) ++ ⟨#[70, 76, 65, 71, 71, 69, 68]⟩ = ⟨#[92, 70, 76, 65, 71, 71, 69, 68]⟩ := rfl
  have hnf : nameF [92, 70, 76, 65, 71, 71, 69, 68] = .inr [92, 70, 108, 97, 103, 103, 101, 100] := by decide +kernel
  go_wp2_with (first
    | (go_at_call 70; (((with_reducible refine cW.mono ?_); rintro e4 w2 ⟨a2, c2, rfl, HS2⟩; obtain ⟨d0, d1⟩ := two_cellsK HS2.out.ks)))
    | (go_at_call 42; (((with_reducible refine (cGr w2).mono ?_); rintro e4 w3 ⟨rfl, hb3⟩; have HS := HS2.out.under hb3; clear d0 d1; obtain ⟨d0, d1⟩ := two_cellsK HS.ks; have cFl := kflag_any K ((m : Int) + 1) 0 [92, 70, 76, 65, 71, 71, 69, 68] w3 HS.ks (by decide))))
    | (go_at_call 71; (((with_reducible refine cFl.mono ?_); rintro e4 w4 ⟨nm, e', rfl, hks, hkk, hd⟩; have HS4 := HS.next hkk.out hks.out (HS.words.kept hkk.out (fun j hj e => by have : j = K := e; omega)); obtain ⟨r0, r1, r2, r3, r4, r5⟩ := ksix_cells HS4.res; have fz := Lib.frozen_of_heap HS4.res))))
  obtain ⟨rfl, rfl⟩ : nm = [92, 70, 108, 97, 103, 103, 101, 100] ∧ e' = 0 := by
    rcases hd.out with ⟨h, h'⟩ | ⟨E, h, _⟩
    · rw [hnf] at h; cases h; exact ⟨rfl, h'⟩
    · rw [hnf] at h; cases h
  exact HS4.done (r := (.ok (.mk 2 [92, 70, 108, 97, 103, 103, 101, 100] [] 0 [] [], l, m + 1))) (e0 := 0) hKl hB (k := .mk 2 [92, 70, 108, 97, 103, 103, 101, 100] [] 0 [] []) (ax := a2) (cx := c2) (lx := l) (keyC_leaf _ _ 2 _ [] 0 (by decide) (by decide)) HS4.words (fun _ => ⟨rfl, rfl, rfl, rfl⟩) (fun h => absurd rfl h) rfl rfl rfl
set_option linter.constructorNameAsVariable false in
set_option maxRecDepth 100000 in
set_option maxHeartbeats 16000000 in
theorem rkey_DELETED (D B K m : Nat) (hD : D ≤ 7) (hm : m ≤ 60) (a : Option Addr) (c : Nat) (t : Wd) (l : List Wd) (w : World) (h : KsC w K (m : Int) 0) (hw : WordsL w (fun j => j < B) (.slice a (t :: l).length c) (t :: l)) (hB : B ≤ K) (h60 : m + 1 ≤ 60) (h6 : D ≤ 6) (hk : t.kind ≠ 3) (hS : greatL t.text = [68, 69, 76, 69, 84, 69, 68]) :
    Calls Tryz.prog 45 #[.pointer (some ⟨K, 0, none⟩), .slice a (t :: l).length c, .int .i64 (D : Int)] w (RKS B K (.ok (.mk 2 [92, 68, 101, 108, 101, 116, 101, 100] [] 0 [] [], l, m + 1)) 0 w) := by
  have hKl : K < w.heap.size := (Array.getElem?_eq_some_iff.1 h).1
  have hst := kyR_start h hw hB ((m : Int) + 1)
  obtain ⟨c0, c1⟩ := two_cellsK (below_same ((Below.refl _ w).alloc (Nat.le_refl _) (.cells zero6 32)) h)
  have fz := Lib.frozen_of_heap (below_same ((Below.refl _ w).alloc (Nat.le_refl _) (.cells zero6 32)) h)
  go_enter Tryz.func45, Tryz.ntmps45
  go_upto_region 2 with fail
  obtain ⟨w1, hw1⟩ : ∃ w1, (w.setCell ⟨K, 0, none⟩ (.int .i64 ((m : Int) + 1))).alloc (.cells #[.int .i64 0, .string ⟨#[]⟩, .string ⟨#[]⟩, .int .i64 0, .slice none 0 0, .slice none 0 0] 32) = w1 := ⟨_, rfl⟩
  rw [hw1]
  have hst : KyR w B K ((m : Int) + 1) 0 (.slice a (t :: l).length c) (t :: l) w1 := hw1 ▸ hst
  clear hw1 c0 c1 fz
  obtain ⟨c0, c1⟩ := two_cellsK hst.ks
  have cW0 := kword_any K B ((m : Int) + 1) 0 a c (t :: l) w1 hst.ks hst.words hB
  obtain ⟨g, off, va, vc, rfl, -, hc1, hc2, hg, x0, x1, x2, ht, hl1, hl2⟩ := hst.words.cons
  have h1 : ¬ (60 : Int) < (m : Int) + 1 := by omega
  have h2 : ¬ (6 : Int) < (D : Int) := by omega
  have hkd : decide (t.kind = 3) = false := decide_eq_false hk
  have hkb : (t.kind == 3) = false := by rw [beq_eq_false_iff_ne]; exact hk
  have hwk : wordK (t :: l) = .ok (t.text, l) := by rw [wordK, if_neg hk]
  have cW : Calls Tryz.prog 70 #[.pointer (some ⟨K, 0, none⟩), .slice (some ⟨g, off, none⟩) (l.length + 1) c] w1 fun x w' => ∃ (a2 : Option Addr) (c2 : Nat), x = .returned (.tuple #[.string ⟨t.text.toArray⟩, .slice a2 l.length c2]) ∧ Hid (KyR w B K ((m : Int) + 1) 0 (.slice a2 l.length c2) l w') := cW0.mono (by
    rintro x w' ⟨s, a2, c2, l', e', rfl, hs, hwd, hks, hkk, hd⟩
    rcases hd.out with ⟨h, rfl⟩ | ⟨h, _⟩
    · rw [hwk] at h
      cases h
      exact ⟨a2, c2, rfl, hst.next hkk.out hks.out hwd.out⟩
    · rw [hwk] at h; cases h)
  have cGr := fun W => rgreat_any t.text W (by omega)
  rw [hS] at cGr
  clear cW0 hl1 hl2 x1 x2 hst h hw hk hwk hS
  have hcat : (⟨#[92]⟩ : ByteArray) ++ ⟨#[68, 69, 76, 69, 84, 69, 68]⟩ = ⟨#[92, 68, 69, 76, 69, 84, 69, 68]⟩ := rfl
  have hnf : nameF [92, 68, 69, 76, 69, 84, 69, 68] = .inr [92, 68, 101, 108, 101, 116, 101, 100] := by decide +kernel
  go_wp2_with (first
    | (go_at_call 70; (((with_reducible refine cW.mono ?_); rintro e4 w2 ⟨a2, c2, rfl, HS2⟩; obtain ⟨d0, d1⟩ := two_cellsK HS2.out.ks)))
    | (go_at_call 42; (((with_reducible refine (cGr w2).mono ?_); rintro e4 w3 ⟨rfl, hb3⟩; have HS := HS2.out.under hb3; clear d0 d1; obtain ⟨d0, d1⟩ := two_cellsK HS.ks; have cFl := kflag_any K ((m : Int) + 1) 0 [92, 68, 69, 76, 69, 84, 69, 68] w3 HS.ks (by decide))))
    | (go_at_call 71; (((with_reducible refine cFl.mono ?_); rintro e4 w4 ⟨nm, e', rfl, hks, hkk, hd⟩; have HS4 := HS.next hkk.out hks.out (HS.words.kept hkk.out (fun j hj e => by have : j = K := e; omega)); obtain ⟨r0, r1, r2, r3, r4, r5⟩ := ksix_cells HS4.res; have fz := Lib.frozen_of_heap HS4.res))))
  obtain ⟨rfl, rfl⟩ : nm = [92, 68, 101, 108, 101, 116, 101, 100] ∧ e' = 0 := by
    rcases hd.out with ⟨h, h'⟩ | ⟨E, h, _⟩
    · rw [hnf] at h; cases h; exact ⟨rfl, h'⟩
    · rw [hnf] at h; cases h
  exact HS4.done (r := (.ok (.mk 2 [92, 68, 101, 108, 101, 116, 101, 100] [] 0 [] [], l, m + 1))) (e0 := 0) hKl hB (k := .mk 2 [92, 68, 101, 108, 101, 116, 101, 100] [] 0 [] []) (ax := a2) (cx := c2) (lx := l) (keyC_leaf _ _ 2 _ [] 0 (by decide) (by decide)) HS4.words (fun _ => ⟨rfl, rfl, rfl, rfl⟩) (fun h => absurd rfl h) rfl rfl rfl
set_option linter.constructorNameAsVariable false in
set_option maxRecDepth 100000 in
set_option maxHeartbeats 16000000 in
theorem rkey_DRAFT (D B K m : Nat) (hD : D ≤ 7) (hm : m ≤ 60) (a : Option Addr) (c : Nat) (t : Wd) (l : List Wd) (w : World) (h : KsC w K (m : Int) 0) (hw : WordsL w (fun j => j < B) (.slice a (t :: l).length c) (t :: l)) (hB : B ≤ K) (h60 : m + 1 ≤ 60) (h6 : D ≤ 6) (hk : t.kind ≠ 3) (hS : greatL t.text = [68, 82, 65, 70, 84]) :
    Calls Tryz.prog 45 #[.pointer (some ⟨K, 0, none⟩), .slice a (t :: l).length c, .int .i64 (D : Int)] w (RKS B K (.ok (.mk 2 [92, 68, 114, 97, 102, 116] [] 0 [] [], l, m + 1)) 0 w) := by
  have hKl : K < w.heap.size := (Array.getElem?_eq_some_iff.1 h).1
  have hst := kyR_start h hw hB ((m : Int) + 1)
  obtain ⟨c0, c1⟩ := two_cellsK (below_same ((Below.refl _ w).alloc (Nat.le_refl _) (.cells zero6 32)) h)
  have fz := Lib.frozen_of_heap (below_same ((Below.refl _ w).alloc (Nat.le_refl _) (.cells zero6 32)) h)
  go_enter Tryz.func45, Tryz.ntmps45
  go_upto_region 2 with fail
  obtain ⟨w1, hw1⟩ : ∃ w1, (w.setCell ⟨K, 0, none⟩ (.int .i64 ((m : Int) + 1))).alloc (.cells #[.int .i64 0, .string ⟨#[]⟩, .string ⟨#[]⟩, .int .i64 0, .slice none 0 0, .slice none 0 0] 32) = w1 := ⟨_, rfl⟩
  rw [hw1]
  have hst : KyR w B K ((m : Int) + 1) 0 (.slice a (t :: l).length c) (t :: l) w1 := hw1 ▸ hst
  clear hw1 c0 c1 fz
  obtain ⟨c0, c1⟩ := two_cellsK hst.ks
  have cW0 := kword_any K B ((m : Int) + 1) 0 a c (t :: l) w1 hst.ks hst.words hB
  obtain ⟨g, off, va, vc, rfl, -, hc1, hc2, hg, x0, x1, x2, ht, hl1, hl2⟩ := hst.words.cons
  have h1 : ¬ (60 : Int) < (m : Int) + 1 := by omega
  have h2 : ¬ (6 : Int) < (D : Int) := by omega
  have hkd : decide (t.kind = 3) = false := decide_eq_false hk
  have hkb : (t.kind == 3) = false := by rw [beq_eq_false_iff_ne]; exact hk
  have hwk : wordK (t :: l) = .ok (t.text, l) := by rw [wordK, if_neg hk]
  have cW : Calls Tryz.prog 70 #[.pointer (some ⟨K, 0, none⟩), .slice (some ⟨g, off, none⟩) (l.length + 1) c] w1 fun x w' => ∃ (a2 : Option Addr) (c2 : Nat), x = .returned (.tuple #[.string ⟨t.text.toArray⟩, .slice a2 l.length c2]) ∧ Hid (KyR w B K ((m : Int) + 1) 0 (.slice a2 l.length c2) l w') := cW0.mono (by
    rintro x w' ⟨s, a2, c2, l', e', rfl, hs, hwd, hks, hkk, hd⟩
    rcases hd.out with ⟨h, rfl⟩ | ⟨h, _⟩
    · rw [hwk] at h
      cases h
      exact ⟨a2, c2, rfl, hst.next hkk.out hks.out hwd.out⟩
    · rw [hwk] at h; cases h)
  have cGr := fun W => rgreat_any t.text W (by omega)
  rw [hS] at cGr
  clear cW0 hl1 hl2 x1 x2 hst h hw hk hwk hS
  have hcat : (⟨#[92]⟩ : ByteArray) ++ ⟨#[68, 82, 65, 70, 84]⟩ = ⟨#[92, 68, 82, 65, 70, 84]⟩ := rfl
  have hnf : nameF [92, 68, 82, 65, 70, 84] = .inr [92, 68, 114, 97, 102, 116] := by decide +kernel
  go_wp2_with (first
    | (go_at_call 70; (((with_reducible refine cW.mono ?_); rintro e4 w2 ⟨a2, c2, rfl, HS2⟩; obtain ⟨d0, d1⟩ := two_cellsK HS2.out.ks)))
    | (go_at_call 42; (((with_reducible refine (cGr w2).mono ?_); rintro e4 w3 ⟨rfl, hb3⟩; have HS := HS2.out.under hb3; clear d0 d1; obtain ⟨d0, d1⟩ := two_cellsK HS.ks; have cFl := kflag_any K ((m : Int) + 1) 0 [92, 68, 82, 65, 70, 84] w3 HS.ks (by decide))))
    | (go_at_call 71; (((with_reducible refine cFl.mono ?_); rintro e4 w4 ⟨nm, e', rfl, hks, hkk, hd⟩; have HS4 := HS.next hkk.out hks.out (HS.words.kept hkk.out (fun j hj e => by have : j = K := e; omega)); obtain ⟨r0, r1, r2, r3, r4, r5⟩ := ksix_cells HS4.res; have fz := Lib.frozen_of_heap HS4.res))))
  obtain ⟨rfl, rfl⟩ : nm = [92, 68, 114, 97, 102, 116] ∧ e' = 0 := by
    rcases hd.out with ⟨h, h'⟩ | ⟨E, h, _⟩
    · rw [hnf] at h; cases h; exact ⟨rfl, h'⟩
    · rw [hnf] at h; cases h
  exact HS4.done (r := (.ok (.mk 2 [92, 68, 114, 97, 102, 116] [] 0 [] [], l, m + 1))) (e0 := 0) hKl hB (k := .mk 2 [92, 68, 114, 97, 102, 116] [] 0 [] []) (ax := a2) (cx := c2) (lx := l) (keyC_leaf _ _ 2 _ [] 0 (by decide) (by decide)) HS4.words (fun _ => ⟨rfl, rfl, rfl, rfl⟩) (fun h => absurd rfl h) rfl rfl rfl
end Go.Proofs.YtcahhnjponeeeaaGreatDoor
namespace Go.Proofs.YtcahhnjponeeeaaGreatDoor
open Go.RowKit Go.Shelf Go.Sort
set_option linter.unusedSimpArgs false
set_option linter.constructorNameAsVariable false in
set_option maxRecDepth 100000 in
set_option maxHeartbeats 16000000 in
theorem rkey_UNSEEN (D B K m : Nat) (hD : D ≤ 7) (hm : m ≤ 60) (a : Option Addr) (c : Nat) (t : Wd) (l : List Wd) (w : World) (h : KsC w K (m : Int) 0) (hw : WordsL w (fun j => j < B) (.slice a (t :: l).length c) (t :: l)) (hB : B ≤ K) (h60 : m + 1 ≤ 60) (h6 : D ≤ 6) (hk : t.kind ≠ 3) (hS : greatL t.text = [85, 78, 83, 69, 69, 78]) :
    Calls Tryz.prog 45 #[.pointer (some ⟨K, 0, none⟩), .slice a (t :: l).length c, .int .i64 (D : Int)] w (RKS B K (.ok (notK (.mk 2 [92, 83, 101, 101, 110] [] 0 [] []), l, m + 1)) 0 w) := by
  have hKl : K < w.heap.size := (Array.getElem?_eq_some_iff.1 h).1
  have hst := kyR_start h hw hB ((m : Int) + 1)
  obtain ⟨c0, c1⟩ := two_cellsK (below_same ((Below.refl _ w).alloc (Nat.le_refl _) (.cells zero6 32)) h)
  have fz := Lib.frozen_of_heap (below_same ((Below.refl _ w).alloc (Nat.le_refl _) (.cells zero6 32)) h)
  go_enter Tryz.func45, Tryz.ntmps45
  go_upto_region 2 with fail
  obtain ⟨w1, hw1⟩ : ∃ w1, (w.setCell ⟨K, 0, none⟩ (.int .i64 ((m : Int) + 1))).alloc (.cells #[.int .i64 0, .string ⟨#[]⟩, .string ⟨#[]⟩, .int .i64 0, .slice none 0 0, .slice none 0 0] 32) = w1 := ⟨_, rfl⟩
  rw [hw1]
  have hst : KyR w B K ((m : Int) + 1) 0 (.slice a (t :: l).length c) (t :: l) w1 := hw1 ▸ hst
  clear hw1 c0 c1 fz
  obtain ⟨c0, c1⟩ := two_cellsK hst.ks
  have cW0 := kword_any K B ((m : Int) + 1) 0 a c (t :: l) w1 hst.ks hst.words hB
  obtain ⟨g, off, va, vc, rfl, -, hc1, hc2, hg, x0, x1, x2, ht, hl1, hl2⟩ := hst.words.cons
  have h1 : ¬ (60 : Int) < (m : Int) + 1 := by omega
  have h2 : ¬ (6 : Int) < (D : Int) := by omega
  have hkd : decide (t.kind = 3) = false := decide_eq_false hk
  have hkb : (t.kind == 3) = false := by rw [beq_eq_false_iff_ne]; exact hk
  have hwk : wordK (t :: l) = .ok (t.text, l) := by rw [wordK, if_neg hk]
  have cW : Calls Tryz.prog 70 #[.pointer (some ⟨K, 0, none⟩), .slice (some ⟨g, off, none⟩) (l.length + 1) c] w1 fun x w' => ∃ (a2 : Option Addr) (c2 : Nat), x = .returned (.tuple #[.string ⟨t.text.toArray⟩, .slice a2 l.length c2]) ∧ Hid (KyR w B K ((m : Int) + 1) 0 (.slice a2 l.length c2) l w') := cW0.mono (by
    rintro x w' ⟨s, a2, c2, l', e', rfl, hs, hwd, hks, hkk, hd⟩
    rcases hd.out with ⟨h, rfl⟩ | ⟨h, _⟩
    · rw [hwk] at h
      cases h
      exact ⟨a2, c2, rfl, hst.next hkk.out hks.out hwd.out⟩
    · rw [hwk] at h; cases h)
  have cGr := fun W => rgreat_any t.text W (by omega)
  rw [hS] at cGr
  clear cW0 hl1 hl2 x1 x2 hst h hw hk hwk hS
  have hcut : (⟨#[85, 78, 83, 69, 69, 78]⟩ : ByteArray).extract 2 6 = ⟨#[83, 69, 69, 78]⟩ := by decide
  have hcat : (⟨#[92]⟩ : ByteArray) ++ ⟨#[83, 69, 69, 78]⟩ = ⟨#[92, 83, 69, 69, 78]⟩ := rfl
  have hnf : nameF [92, 83, 69, 69, 78] = .inr [92, 83, 101, 101, 110] := by decide +kernel
  go_wp2_with (first
    | (go_at_call 70; (((with_reducible refine cW.mono ?_); rintro e4 w2 ⟨a2, c2, rfl, HS2⟩; obtain ⟨d0, d1⟩ := two_cellsK HS2.out.ks)))
    | (go_at_call 42; (((with_reducible refine (cGr w2).mono ?_); rintro e4 w3 ⟨rfl, hb3⟩; have HS := HS2.out.under hb3; clear d0 d1; obtain ⟨d0, d1⟩ := two_cellsK HS.ks; have cFl := kflag_any K ((m : Int) + 1) 0 [92, 83, 69, 69, 78] w3 HS.ks (by decide))))
    | (go_at_call 71; (((with_reducible refine cFl.mono ?_); rintro e4 w4 ⟨nm, e', rfl, hks, hkk, hd⟩; have HS4 := HS.next hkk.out hks.out (HS.words.kept hkk.out (fun j hj e => by have : j = K := e; omega)); have cNo := knots_any (.int .i64 2) (.string ⟨nm.toArray⟩) (.string ⟨#[]⟩) (.int .i64 0) (.slice none 0 0) (.slice none 0 0) w4)))
    | (go_at_call 72; (((with_reducible refine cNo.mono ?_); rintro e4 w5 ⟨rfl, hb5, hx5⟩; have HS5 := HS4.under hb5; obtain ⟨r0, r1, r2, r3, r4, r5⟩ := ksix_cells HS5.res; have fz := Lib.frozen_of_heap HS5.res))))
  obtain ⟨rfl, rfl⟩ : nm = [92, 83, 101, 101, 110] ∧ e' = 0 := by
    rcases hd.out with ⟨h, h'⟩ | ⟨E, h, _⟩
    · rw [hnf] at h; cases h; exact ⟨rfl, h'⟩
    · rw [hnf] at h; cases h
  have hlt : w.heap.size < w4.heap.size := (Array.getElem?_eq_some_iff.1 HS4.res).1
  exact HS5.done (r := (.ok (notK (.mk 2 [92, 83, 101, 101, 110] [] 0 [] []), l, m + 1))) (e0 := 0) hKl hB (k := notK (.mk 2 [92, 83, 101, 101, 110] [] 0 [] [])) (ax := a2) (cx := c2) (lx := l) (keyC_one hx5 (by show w.heap.size < w4.heap.size + 2; omega) (keyC_leaf _ _ 2 _ [] 0 (by decide) (by decide))) HS5.words (fun _ => ⟨rfl, rfl, rfl, rfl⟩) (fun h => absurd rfl h) rfl rfl rfl
set_option linter.constructorNameAsVariable false in
set_option maxRecDepth 100000 in
set_option maxHeartbeats 16000000 in
theorem rkey_UNANSWERED (D B K m : Nat) (hD : D ≤ 7) (hm : m ≤ 60) (a : Option Addr) (c : Nat) (t : Wd) (l : List Wd) (w : World) (h : KsC w K (m : Int) 0) (hw : WordsL w (fun j => j < B) (.slice a (t :: l).length c) (t :: l)) (hB : B ≤ K) (h60 : m + 1 ≤ 60) (h6 : D ≤ 6) (hk : t.kind ≠ 3) (hS : greatL t.text = [85, 78, 65, 78, 83, 87, 69, 82, 69, 68]) :
    Calls Tryz.prog 45 #[.pointer (some ⟨K, 0, none⟩), .slice a (t :: l).length c, .int .i64 (D : Int)] w (RKS B K (.ok (notK (.mk 2 [92, 65, 110, 115, 119, 101, 114, 101, 100] [] 0 [] []), l, m + 1)) 0 w) := by
  have hKl : K < w.heap.size := (Array.getElem?_eq_some_iff.1 h).1
  have hst := kyR_start h hw hB ((m : Int) + 1)
  obtain ⟨c0, c1⟩ := two_cellsK (below_same ((Below.refl _ w).alloc (Nat.le_refl _) (.cells zero6 32)) h)
  have fz := Lib.frozen_of_heap (below_same ((Below.refl _ w).alloc (Nat.le_refl _) (.cells zero6 32)) h)
  go_enter Tryz.func45, Tryz.ntmps45
  go_upto_region 2 with fail
  obtain ⟨w1, hw1⟩ : ∃ w1, (w.setCell ⟨K, 0, none⟩ (.int .i64 ((m : Int) + 1))).alloc (.cells #[.int .i64 0, .string ⟨#[]⟩, .string ⟨#[]⟩, .int .i64 0, .slice none 0 0, .slice none 0 0] 32) = w1 := ⟨_, rfl⟩
  rw [hw1]
  have hst : KyR w B K ((m : Int) + 1) 0 (.slice a (t :: l).length c) (t :: l) w1 := hw1 ▸ hst
  clear hw1 c0 c1 fz
  obtain ⟨c0, c1⟩ := two_cellsK hst.ks
  have cW0 := kword_any K B ((m : Int) + 1) 0 a c (t :: l) w1 hst.ks hst.words hB
  obtain ⟨g, off, va, vc, rfl, -, hc1, hc2, hg, x0, x1, x2, ht, hl1, hl2⟩ := hst.words.cons
  have h1 : ¬ (60 : Int) < (m : Int) + 1 := by omega
  have h2 : ¬ (6 : Int) < (D : Int) := by omega
  have hkd : decide (t.kind = 3) = false := decide_eq_false hk
  have hkb : (t.kind == 3) = false := by rw [beq_eq_false_iff_ne]; exact hk
  have hwk : wordK (t :: l) = .ok (t.text, l) := by rw [wordK, if_neg hk]
  have cW : Calls Tryz.prog 70 #[.pointer (some ⟨K, 0, none⟩), .slice (some ⟨g, off, none⟩) (l.length + 1) c] w1 fun x w' => ∃ (a2 : Option Addr) (c2 : Nat), x = .returned (.tuple #[.string ⟨t.text.toArray⟩, .slice a2 l.length c2]) ∧ Hid (KyR w B K ((m : Int) + 1) 0 (.slice a2 l.length c2) l w') := cW0.mono (by
    rintro x w' ⟨s, a2, c2, l', e', rfl, hs, hwd, hks, hkk, hd⟩
    rcases hd.out with ⟨h, rfl⟩ | ⟨h, _⟩
    · rw [hwk] at h
      cases h
      exact ⟨a2, c2, rfl, hst.next hkk.out hks.out hwd.out⟩
    · rw [hwk] at h; cases h)
  have cGr := fun W => rgreat_any t.text W (by omega)
  rw [hS] at cGr
  clear cW0 hl1 hl2 x1 x2 hst h hw hk hwk hS
  have hcut : (⟨#[85, 78, 65, 78, 83, 87, 69, 82, 69, 68]⟩ : ByteArray).extract 2 10 = ⟨#[65, 78, 83, 87, 69, 82, 69, 68]⟩ := by decide
  have hcat : (⟨#[92]⟩ : ByteArray) ++ ⟨#[65, 78, 83, 87, 69, 82, 69, 68]⟩ = ⟨#[92, 65, 78, 83, 87, 69, 82, 69, 68]⟩ := rfl
  have hnf : nameF [92, 65, 78, 83, 87, 69, 82, 69, 68] = .inr [92, 65, 110, 115, 119, 101, 114, 101, 100] := by decide +kernel
  go_wp2_with (first
    | (go_at_call 70; (((with_reducible refine cW.mono ?_); rintro e4 w2 ⟨a2, c2, rfl, HS2⟩; obtain ⟨d0, d1⟩ := two_cellsK HS2.out.ks)))
    | (go_at_call 42; (((with_reducible refine (cGr w2).mono ?_); rintro e4 w3 ⟨rfl, hb3⟩; have HS := HS2.out.under hb3; clear d0 d1; obtain ⟨d0, d1⟩ := two_cellsK HS.ks; have cFl := kflag_any K ((m : Int) + 1) 0 [92, 65, 78, 83, 87, 69, 82, 69, 68] w3 HS.ks (by decide))))
    | (go_at_call 71; (((with_reducible refine cFl.mono ?_); rintro e4 w4 ⟨nm, e', rfl, hks, hkk, hd⟩; have HS4 := HS.next hkk.out hks.out (HS.words.kept hkk.out (fun j hj e => by have : j = K := e; omega)); have cNo := knots_any (.int .i64 2) (.string ⟨nm.toArray⟩) (.string ⟨#[]⟩) (.int .i64 0) (.slice none 0 0) (.slice none 0 0) w4)))
    | (go_at_call 72; (((with_reducible refine cNo.mono ?_); rintro e4 w5 ⟨rfl, hb5, hx5⟩; have HS5 := HS4.under hb5; obtain ⟨r0, r1, r2, r3, r4, r5⟩ := ksix_cells HS5.res; have fz := Lib.frozen_of_heap HS5.res))))
  obtain ⟨rfl, rfl⟩ : nm = [92, 65, 110, 115, 119, 101, 114, 101, 100] ∧ e' = 0 := by
    rcases hd.out with ⟨h, h'⟩ | ⟨E, h, _⟩
    · rw [hnf] at h; cases h; exact ⟨rfl, h'⟩
    · rw [hnf] at h; cases h
  have hlt : w.heap.size < w4.heap.size := (Array.getElem?_eq_some_iff.1 HS4.res).1
  exact HS5.done (r := (.ok (notK (.mk 2 [92, 65, 110, 115, 119, 101, 114, 101, 100] [] 0 [] []), l, m + 1))) (e0 := 0) hKl hB (k := notK (.mk 2 [92, 65, 110, 115, 119, 101, 114, 101, 100] [] 0 [] [])) (ax := a2) (cx := c2) (lx := l) (keyC_one hx5 (by show w.heap.size < w4.heap.size + 2; omega) (keyC_leaf _ _ 2 _ [] 0 (by decide) (by decide))) HS5.words (fun _ => ⟨rfl, rfl, rfl, rfl⟩) (fun h => absurd rfl h) rfl rfl rfl
set_option linter.constructorNameAsVariable false in
set_option maxRecDepth 100000 in
set_option maxHeartbeats 16000000 in
theorem rkey_UNFLAGGED (D B K m : Nat) (hD : D ≤ 7) (hm : m ≤ 60) (a : Option Addr) (c : Nat) (t : Wd) (l : List Wd) (w : World) (h : KsC w K (m : Int) 0) (hw : WordsL w (fun j => j < B) (.slice a (t :: l).length c) (t :: l)) (hB : B ≤ K) (h60 : m + 1 ≤ 60) (h6 : D ≤ 6) (hk : t.kind ≠ 3) (hS : greatL t.text = [85, 78, 70, 76, 65, 71, 71, 69, 68]) :
    Calls Tryz.prog 45 #[.pointer (some ⟨K, 0, none⟩), .slice a (t :: l).length c, .int .i64 (D : Int)] w (RKS B K (.ok (notK (.mk 2 [92, 70, 108, 97, 103, 103, 101, 100] [] 0 [] []), l, m + 1)) 0 w) := by
  have hKl : K < w.heap.size := (Array.getElem?_eq_some_iff.1 h).1
  have hst := kyR_start h hw hB ((m : Int) + 1)
  obtain ⟨c0, c1⟩ := two_cellsK (below_same ((Below.refl _ w).alloc (Nat.le_refl _) (.cells zero6 32)) h)
  have fz := Lib.frozen_of_heap (below_same ((Below.refl _ w).alloc (Nat.le_refl _) (.cells zero6 32)) h)
  go_enter Tryz.func45, Tryz.ntmps45
  go_upto_region 2 with fail
  obtain ⟨w1, hw1⟩ : ∃ w1, (w.setCell ⟨K, 0, none⟩ (.int .i64 ((m : Int) + 1))).alloc (.cells #[.int .i64 0, .string ⟨#[]⟩, .string ⟨#[]⟩, .int .i64 0, .slice none 0 0, .slice none 0 0] 32) = w1 := ⟨_, rfl⟩
  rw [hw1]
  have hst : KyR w B K ((m : Int) + 1) 0 (.slice a (t :: l).length c) (t :: l) w1 := hw1 ▸ hst
  clear hw1 c0 c1 fz
  obtain ⟨c0, c1⟩ := two_cellsK hst.ks
  have cW0 := kword_any K B ((m : Int) + 1) 0 a c (t :: l) w1 hst.ks hst.words hB
  obtain ⟨g, off, va, vc, rfl, -, hc1, hc2, hg, x0, x1, x2, ht, hl1, hl2⟩ := hst.words.cons
  have h1 : ¬ (60 : Int) < (m : Int) + 1 := by omega
  have h2 : ¬ (6 : Int) < (D : Int) := by omega
  have hkd : decide (t.kind = 3) = false := decide_eq_false hk
  have hkb : (t.kind == 3) = false := by rw [beq_eq_false_iff_ne]; exact hk
  have hwk : wordK (t :: l) = .ok (t.text, l) := by rw [wordK, if_neg hk]
  have cW : Calls Tryz.prog 70 #[.pointer (some ⟨K, 0, none⟩), .slice (some ⟨g, off, none⟩) (l.length + 1) c] w1 fun x w' => ∃ (a2 : Option Addr) (c2 : Nat), x = .returned (.tuple #[.string ⟨t.text.toArray⟩, .slice a2 l.length c2]) ∧ Hid (KyR w B K ((m : Int) + 1) 0 (.slice a2 l.length c2) l w') := cW0.mono (by
    rintro x w' ⟨s, a2, c2, l', e', rfl, hs, hwd, hks, hkk, hd⟩
    rcases hd.out with ⟨h, rfl⟩ | ⟨h, _⟩
    · rw [hwk] at h
      cases h
      exact ⟨a2, c2, rfl, hst.next hkk.out hks.out hwd.out⟩
    · rw [hwk] at h; cases h)
  have cGr := fun W => rgreat_any t.text W (by omega)
  rw [hS] at cGr
  clear cW0 hl1 hl2 x1 x2 hst h hw hk hwk hS
  have hcut : (⟨#[85, 78, 70, 76, 65, 71, 71, 69, 68]⟩ : ByteArray).extract 2 9 = ⟨#[70, 76, 65, 71, 71, 69, 68]⟩ := by decide
  have hcat : (⟨#[92]⟩ : ByteArray) ++ ⟨#[70, 76, 65, 71, 71, 69, 68]⟩ = ⟨#[92, 70, 76, 65, 71, 71, 69, 68]⟩ := rfl
  have hnf : nameF [92, 70, 76, 65, 71, 71, 69, 68] = .inr [92, 70, 108, 97, 103, 103, 101, 100] := by decide +kernel
  go_wp2_with (first
    | (go_at_call 70; (((with_reducible refine cW.mono ?_); rintro e4 w2 ⟨a2, c2, rfl, HS2⟩; obtain ⟨d0, d1⟩ := two_cellsK HS2.out.ks)))
    | (go_at_call 42; (((with_reducible refine (cGr w2).mono ?_); rintro e4 w3 ⟨rfl, hb3⟩; have HS := HS2.out.under hb3; clear d0 d1; obtain ⟨d0, d1⟩ := two_cellsK HS.ks; have cFl := kflag_any K ((m : Int) + 1) 0 [92, 70, 76, 65, 71, 71, 69, 68] w3 HS.ks (by decide))))
    | (go_at_call 71; (((with_reducible refine cFl.mono ?_); rintro e4 w4 ⟨nm, e', rfl, hks, hkk, hd⟩; have HS4 := HS.next hkk.out hks.out (HS.words.kept hkk.out (fun j hj e => by have : j = K := e; omega)); have cNo := knots_any (.int .i64 2) (.string ⟨nm.toArray⟩) (.string ⟨#[]⟩) (.int .i64 0) (.slice none 0 0) (.slice none 0 0) w4)))
    | (go_at_call 72; (((with_reducible refine cNo.mono ?_); rintro e4 w5 ⟨rfl, hb5, hx5⟩; have HS5 := HS4.under hb5; obtain ⟨r0, r1, r2, r3, r4, r5⟩ := ksix_cells HS5.res; have fz := Lib.frozen_of_heap HS5.res))))
  obtain ⟨rfl, rfl⟩ : nm = [92, 70, 108, 97, 103, 103, 101, 100] ∧ e' = 0 := by
    rcases hd.out with ⟨h, h'⟩ | ⟨E, h, _⟩
    · rw [hnf] at h; cases h; exact ⟨rfl, h'⟩
    · rw [hnf] at h; cases h
  have hlt : w.heap.size < w4.heap.size := (Array.getElem?_eq_some_iff.1 HS4.res).1
  exact HS5.done (r := (.ok (notK (.mk 2 [92, 70, 108, 97, 103, 103, 101, 100] [] 0 [] []), l, m + 1))) (e0 := 0) hKl hB (k := notK (.mk 2 [92, 70, 108, 97, 103, 103, 101, 100] [] 0 [] [])) (ax := a2) (cx := c2) (lx := l) (keyC_one hx5 (by show w.heap.size < w4.heap.size + 2; omega) (keyC_leaf _ _ 2 _ [] 0 (by decide) (by decide))) HS5.words (fun _ => ⟨rfl, rfl, rfl, rfl⟩) (fun h => absurd rfl h) rfl rfl rfl
set_option linter.constructorNameAsVariable false in
set_option maxRecDepth 100000 in
set_option maxHeartbeats 16000000 in
theorem rkey_UNDELETED (D B K m : Nat) (hD : D ≤ 7) (hm : m ≤ 60) (a : Option Addr) (c : Nat) (t : Wd) (l : List Wd) (w : World) (h : KsC w K (m : Int) 0) (hw : WordsL w (fun j => j < B) (.slice a (t :: l).length c) (t :: l)) (hB : B ≤ K) (h60 : m + 1 ≤ 60) (h6 : D ≤ 6) (hk : t.kind ≠ 3) (hS : greatL t.text = [85, 78, 68, 69, 76, 69, 84, 69, 68]) :
    Calls Tryz.prog 45 #[.pointer (some ⟨K, 0, none⟩), .slice a (t :: l).length c, .int .i64 (D : Int)] w (RKS B K (.ok (notK (.mk 2 [92, 68, 101, 108, 101, 116, 101, 100] [] 0 [] []), l, m + 1)) 0 w) := by
  have hKl : K < w.heap.size := (Array.getElem?_eq_some_iff.1 h).1
  have hst := kyR_start h hw hB ((m : Int) + 1)
  obtain ⟨c0, c1⟩ := two_cellsK (below_same ((Below.refl _ w).alloc (Nat.le_refl _) (.cells zero6 32)) h)
  have fz := Lib.frozen_of_heap (below_same ((Below.refl _ w).alloc (Nat.le_refl _) (.cells zero6 32)) h)
  go_enter Tryz.func45, Tryz.ntmps45
  go_upto_region 2 with fail
  obtain ⟨w1, hw1⟩ : ∃ w1, (w.setCell ⟨K, 0, none⟩ (.int .i64 ((m : Int) + 1))).alloc (.cells #[.int .i64 0, .string ⟨#[]⟩, .string ⟨#[]⟩, .int .i64 0, .slice none 0 0, .slice none 0 0] 32) = w1 := ⟨_, rfl⟩
  rw [hw1]
  have hst : KyR w B K ((m : Int) + 1) 0 (.slice a (t :: l).length c) (t :: l) w1 := hw1 ▸ hst
  clear hw1 c0 c1 fz
  obtain ⟨c0, c1⟩ := two_cellsK hst.ks
  have cW0 := kword_any K B ((m : Int) + 1) 0 a c (t :: l) w1 hst.ks hst.words hB
  obtain ⟨g, off, va, vc, rfl, -, hc1, hc2, hg, x0, x1, x2, ht, hl1, hl2⟩ := hst.words.cons
  have h1 : ¬ (60 : Int) < (m : Int) + 1 := by omega
  have h2 : ¬ (6 : Int) < (D : Int) := by omega
  have hkd : decide (t.kind = 3) = false := decide_eq_false hk
  have hkb : (t.kind == 3) = false := by rw [beq_eq_false_iff_ne]; exact hk
  have hwk : wordK (t :: l) = .ok (t.text, l) := by rw [wordK, if_neg hk]
  have cW : Calls Tryz.prog 70 #[.pointer (some ⟨K, 0, none⟩), .slice (some ⟨g, off, none⟩) (l.length + 1) c] w1 fun x w' => ∃ (a2 : Option Addr) (c2 : Nat), x = .returned (.tuple #[.string ⟨t.text.toArray⟩, .slice a2 l.length c2]) ∧ Hid (KyR w B K ((m : Int) + 1) 0 (.slice a2 l.length c2) l w') := cW0.mono (by
    rintro x w' ⟨s, a2, c2, l', e', rfl, hs, hwd, hks, hkk, hd⟩
    rcases hd.out with ⟨h, rfl⟩ | ⟨h, _⟩
    · rw [hwk] at h
      cases h
      exact ⟨a2, c2, rfl, hst.next hkk.out hks.out hwd.out⟩
    · rw [hwk] at h; cases h)
  have cGr := fun W => rgreat_any t.text W (by omega)
  rw [hS] at cGr
  clear cW0 hl1 hl2 x1 x2 hst h hw hk hwk hS
  have hcut : (⟨#[85, 78, 68, 69, 76, 69, 84, 69, 68]⟩ : ByteArray).extract 2 9 = ⟨#[68, 69, 76, 69, 84, 69, 68]⟩ := by decide
  have hcat : (⟨#[92]⟩ : ByteArray) ++ ⟨#[68, 69, 76, 69, 84, 69, 68]⟩ = ⟨#[92, 68, 69, 76, 69, 84, 69, 68]⟩ := rfl
  have hnf : nameF [92, 68, 69, 76, 69, 84, 69, 68] = .inr [92, 68, 101, 108, 101, 116, 101, 100] := by decide +kernel
  go_wp2_with (first
    | (go_at_call 70; (((with_reducible refine cW.mono ?_); rintro e4 w2 ⟨a2, c2, rfl, HS2⟩; obtain ⟨d0, d1⟩ := two_cellsK HS2.out.ks)))
    | (go_at_call 42; (((with_reducible refine (cGr w2).mono ?_); rintro e4 w3 ⟨rfl, hb3⟩; have HS := HS2.out.under hb3; clear d0 d1; obtain ⟨d0, d1⟩ := two_cellsK HS.ks; have cFl := kflag_any K ((m : Int) + 1) 0 [92, 68, 69, 76, 69, 84, 69, 68] w3 HS.ks (by decide))))
    | (go_at_call 71; (((with_reducible refine cFl.mono ?_); rintro e4 w4 ⟨nm, e', rfl, hks, hkk, hd⟩; have HS4 := HS.next hkk.out hks.out (HS.words.kept hkk.out (fun j hj e => by have : j = K := e; omega)); have cNo := knots_any (.int .i64 2) (.string ⟨nm.toArray⟩) (.string ⟨#[]⟩) (.int .i64 0) (.slice none 0 0) (.slice none 0 0) w4)))
    | (go_at_call 72; (((with_reducible refine cNo.mono ?_); rintro e4 w5 ⟨rfl, hb5, hx5⟩; have HS5 := HS4.under hb5; obtain ⟨r0, r1, r2, r3, r4, r5⟩ := ksix_cells HS5.res; have fz := Lib.frozen_of_heap HS5.res))))
  obtain ⟨rfl, rfl⟩ : nm = [92, 68, 101, 108, 101, 116, 101, 100] ∧ e' = 0 := by
    rcases hd.out with ⟨h, h'⟩ | ⟨E, h, _⟩
    · rw [hnf] at h; cases h; exact ⟨rfl, h'⟩
    · rw [hnf] at h; cases h
  have hlt : w.heap.size < w4.heap.size := (Array.getElem?_eq_some_iff.1 HS4.res).1
  exact HS5.done (r := (.ok (notK (.mk 2 [92, 68, 101, 108, 101, 116, 101, 100] [] 0 [] []), l, m + 1))) (e0 := 0) hKl hB (k := notK (.mk 2 [92, 68, 101, 108, 101, 116, 101, 100] [] 0 [] [])) (ax := a2) (cx := c2) (lx := l) (keyC_one hx5 (by show w.heap.size < w4.heap.size + 2; omega) (keyC_leaf _ _ 2 _ [] 0 (by decide) (by decide))) HS5.words (fun _ => ⟨rfl, rfl, rfl, rfl⟩) (fun h => absurd rfl h) rfl rfl rfl
set_option linter.constructorNameAsVariable false in
set_option maxRecDepth 100000 in
set_option maxHeartbeats 16000000 in
theorem rkey_UNDRAFT (D B K m : Nat) (hD : D ≤ 7) (hm : m ≤ 60) (a : Option Addr) (c : Nat) (t : Wd) (l : List Wd) (w : World) (h : KsC w K (m : Int) 0) (hw : WordsL w (fun j => j < B) (.slice a (t :: l).length c) (t :: l)) (hB : B ≤ K) (h60 : m + 1 ≤ 60) (h6 : D ≤ 6) (hk : t.kind ≠ 3) (hS : greatL t.text = [85, 78, 68, 82, 65, 70, 84]) :
    Calls Tryz.prog 45 #[.pointer (some ⟨K, 0, none⟩), .slice a (t :: l).length c, .int .i64 (D : Int)] w (RKS B K (.ok (notK (.mk 2 [92, 68, 114, 97, 102, 116] [] 0 [] []), l, m + 1)) 0 w) := by
  have hKl : K < w.heap.size := (Array.getElem?_eq_some_iff.1 h).1
  have hst := kyR_start h hw hB ((m : Int) + 1)
  obtain ⟨c0, c1⟩ := two_cellsK (below_same ((Below.refl _ w).alloc (Nat.le_refl _) (.cells zero6 32)) h)
  have fz := Lib.frozen_of_heap (below_same ((Below.refl _ w).alloc (Nat.le_refl _) (.cells zero6 32)) h)
  go_enter Tryz.func45, Tryz.ntmps45
  go_upto_region 2 with fail
  obtain ⟨w1, hw1⟩ : ∃ w1, (w.setCell ⟨K, 0, none⟩ (.int .i64 ((m : Int) + 1))).alloc (.cells #[.int .i64 0, .string ⟨#[]⟩, .string ⟨#[]⟩, .int .i64 0, .slice none 0 0, .slice none 0 0] 32) = w1 := ⟨_, rfl⟩
  rw [hw1]
  have hst : KyR w B K ((m : Int) + 1) 0 (.slice a (t :: l).length c) (t :: l) w1 := hw1 ▸ hst
  clear hw1 c0 c1 fz
  obtain ⟨c0, c1⟩ := two_cellsK hst.ks
  have cW0 := kword_any K B ((m : Int) + 1) 0 a c (t :: l) w1 hst.ks hst.words hB
  obtain ⟨g, off, va, vc, rfl, -, hc1, hc2, hg, x0, x1, x2, ht, hl1, hl2⟩ := hst.words.cons
  have h1 : ¬ (60 : Int) < (m : Int) + 1 := by omega
  have h2 : ¬ (6 : Int) < (D : Int) := by omega
  have hkd : decide (t.kind = 3) = false := decide_eq_false hk
  have hkb : (t.kind == 3) = false := by rw [beq_eq_false_iff_ne]; exact hk
  have hwk : wordK (t :: l) = .ok (t.text, l) := by rw [wordK, if_neg hk]
  have cW : Calls Tryz.prog 70 #[.pointer (some ⟨K, 0, none⟩), .slice (some ⟨g, off, none⟩) (l.length + 1) c] w1 fun x w' => ∃ (a2 : Option Addr) (c2 : Nat), x = .returned (.tuple #[.string ⟨t.text.toArray⟩, .slice a2 l.length c2]) ∧ Hid (KyR w B K ((m : Int) + 1) 0 (.slice a2 l.length c2) l w') := cW0.mono (by
    rintro x w' ⟨s, a2, c2, l', e', rfl, hs, hwd, hks, hkk, hd⟩
    rcases hd.out with ⟨h, rfl⟩ | ⟨h, _⟩
    · rw [hwk] at h
      cases h
      exact ⟨a2, c2, rfl, hst.next hkk.out hks.out hwd.out⟩
    · rw [hwk] at h; cases h)
  have cGr := fun W => rgreat_any t.text W (by omega)
  rw [hS] at cGr
  clear cW0 hl1 hl2 x1 x2 hst h hw hk hwk hS
  have hcut : (⟨#[85, 78, 68, 82, 65, 70, 84]⟩ : ByteArray).extract 2 7 = ⟨#[68, 82, 65, 70, 84]⟩ := by decide
  have hcat : (⟨#[92]⟩ : ByteArray) ++ ⟨#[68, 82, 65, 70, 84]⟩ = ⟨#[92, 68, 82, 65, 70, 84]⟩ := rfl
  have hnf : nameF [92, 68, 82, 65, 70, 84] = .inr [92, 68, 114, 97, 102, 116] := by decide +kernel
  go_wp2_with (first
    | (go_at_call 70; (((with_reducible refine cW.mono ?_); rintro e4 w2 ⟨a2, c2, rfl, HS2⟩; obtain ⟨d0, d1⟩ := two_cellsK HS2.out.ks)))
    | (go_at_call 42; (((with_reducible refine (cGr w2).mono ?_); rintro e4 w3 ⟨rfl, hb3⟩; have HS := HS2.out.under hb3; clear d0 d1; obtain ⟨d0, d1⟩ := two_cellsK HS.ks; have cFl := kflag_any K ((m : Int) + 1) 0 [92, 68, 82, 65, 70, 84] w3 HS.ks (by decide))))
    | (go_at_call 71; (((with_reducible refine cFl.mono ?_); rintro e4 w4 ⟨nm, e', rfl, hks, hkk, hd⟩; have HS4 := HS.next hkk.out hks.out (HS.words.kept hkk.out (fun j hj e => by have : j = K := e; omega)); have cNo := knots_any (.int .i64 2) (.string ⟨nm.toArray⟩) (.string ⟨#[]⟩) (.int .i64 0) (.slice none 0 0) (.slice none 0 0) w4)))
    | (go_at_call 72; (((with_reducible refine cNo.mono ?_); rintro e4 w5 ⟨rfl, hb5, hx5⟩; have HS5 := HS4.under hb5; obtain ⟨r0, r1, r2, r3, r4, r5⟩ := ksix_cells HS5.res; have fz := Lib.frozen_of_heap HS5.res))))
  obtain ⟨rfl, rfl⟩ : nm = [92, 68, 114, 97, 102, 116] ∧ e' = 0 := by
    rcases hd.out with ⟨h, h'⟩ | ⟨E, h, _⟩
    · rw [hnf] at h; cases h; exact ⟨rfl, h'⟩
    · rw [hnf] at h; cases h
  have hlt : w.heap.size < w4.heap.size := (Array.getElem?_eq_some_iff.1 HS4.res).1
  exact HS5.done (r := (.ok (notK (.mk 2 [92, 68, 114, 97, 102, 116] [] 0 [] []), l, m + 1))) (e0 := 0) hKl hB (k := notK (.mk 2 [92, 68, 114, 97, 102, 116] [] 0 [] [])) (ax := a2) (cx := c2) (lx := l) (keyC_one hx5 (by show w.heap.size < w4.heap.size + 2; omega) (keyC_leaf _ _ 2 _ [] 0 (by decide) (by decide))) HS5.words (fun _ => ⟨rfl, rfl, rfl, rfl⟩) (fun h => absurd rfl h) rfl rfl rfl
set_option linter.constructorNameAsVariable false in
set_option maxRecDepth 100000 in
set_option maxHeartbeats 16000000 in
theorem rkey_FROM (D B K m : Nat) (hD : D ≤ 7) (hm : m ≤ 60) (a : Option Addr) (c : Nat) (t : Wd) (l : List Wd) (w : World) (h : KsC w K (m : Int) 0) (hw : WordsL w (fun j => j < B) (.slice a (t :: l).length c) (t :: l)) (hB : B ≤ K) (h60 : m + 1 ≤ 60) (h6 : D ≤ 6) (hk : t.kind ≠ 3) (hS : greatL t.text = [70, 82, 79, 77]) :
    Calls Tryz.prog 45 #[.pointer (some ⟨K, 0, none⟩), .slice a (t :: l).length c, .int .i64 (D : Int)] w (RKS B K (headK [102, 114, 111, 109] l (m + 1)) 0 w) := by
  have hKl : K < w.heap.size := (Array.getElem?_eq_some_iff.1 h).1
  have hst := kyR_start h hw hB ((m : Int) + 1)
  obtain ⟨c0, c1⟩ := two_cellsK (below_same ((Below.refl _ w).alloc (Nat.le_refl _) (.cells zero6 32)) h)
  have fz := Lib.frozen_of_heap (below_same ((Below.refl _ w).alloc (Nat.le_refl _) (.cells zero6 32)) h)
  go_enter Tryz.func45, Tryz.ntmps45
  go_upto_region 2 with fail
  obtain ⟨w1, hw1⟩ : ∃ w1, (w.setCell ⟨K, 0, none⟩ (.int .i64 ((m : Int) + 1))).alloc (.cells #[.int .i64 0, .string ⟨#[]⟩, .string ⟨#[]⟩, .int .i64 0, .slice none 0 0, .slice none 0 0] 32) = w1 := ⟨_, rfl⟩
  rw [hw1]
  have hst : KyR w B K ((m : Int) + 1) 0 (.slice a (t :: l).length c) (t :: l) w1 := hw1 ▸ hst
  clear hw1 c0 c1 fz
  obtain ⟨c0, c1⟩ := two_cellsK hst.ks
  have cW0 := kword_any K B ((m : Int) + 1) 0 a c (t :: l) w1 hst.ks hst.words hB
  obtain ⟨g, off, va, vc, rfl, -, hc1, hc2, hg, x0, x1, x2, ht, hl1, hl2⟩ := hst.words.cons
  have h1 : ¬ (60 : Int) < (m : Int) + 1 := by omega
  have h2 : ¬ (6 : Int) < (D : Int) := by omega
  have hkd : decide (t.kind = 3) = false := decide_eq_false hk
  have hkb : (t.kind == 3) = false := by rw [beq_eq_false_iff_ne]; exact hk
  have hwk : wordK (t :: l) = .ok (t.text, l) := by rw [wordK, if_neg hk]
  have cW : Calls Tryz.prog 70 #[.pointer (some ⟨K, 0, none⟩), .slice (some ⟨g, off, none⟩) (l.length + 1) c] w1 fun x w' => ∃ (a2 : Option Addr) (c2 : Nat), x = .returned (.tuple #[.string ⟨t.text.toArray⟩, .slice a2 l.length c2]) ∧ Hid (KyR w B K ((m : Int) + 1) 0 (.slice a2 l.length c2) l w') := cW0.mono (by
    rintro x w' ⟨s, a2, c2, l', e', rfl, hs, hwd, hks, hkk, hd⟩
    rcases hd.out with ⟨h, rfl⟩ | ⟨h, _⟩
    · rw [hwk] at h
      cases h
      exact ⟨a2, c2, rfl, hst.next hkk.out hks.out hwd.out⟩
    · rw [hwk] at h; cases h)
  have cGr := fun W => rgreat_any t.text W (by omega)
  rw [hS] at cGr
  clear cW0 hl1 hl2 x1 x2 hst h hw hk hwk hS
  have cSm := fun W => rsmall_any [70, 82, 79, 77] W (by decide)
  rw [show smallL [70, 82, 79, 77] = [102, 114, 111, 109] by decide +kernel] at cSm
  go_wp2_with (first
    | (go_at_call 70; (((with_reducible refine cW.mono ?_); rintro e4 w2 ⟨a2, c2, rfl, HS2⟩; obtain ⟨d0, d1⟩ := two_cellsK HS2.out.ks)))
    | (go_at_call 42; (((with_reducible refine (cGr w2).mono ?_); rintro e4 w3 ⟨rfl, hb3⟩; have HS := HS2.out.under hb3; clear d0 d1; obtain ⟨d0, d1⟩ := two_cellsK HS.ks; have cW3 := kword_any K B ((m : Int) + 1) 0 a2 c2 l w3 HS.ks HS.words hB)))
    | (go_at_call 70; (((with_reducible refine cW3.mono ?_); rintro e4 w4 ⟨s, a4, c4, l4, e', rfl, hs4, hwd, hks, hkk, hd⟩; have HS4 := HS.next hkk.out hks.out hwd.out)))
    | (go_at_call 33; (((with_reducible refine (cSm w4).mono ?_); rintro e4 w5 ⟨rfl, hb5⟩; have HS5 := HS4.under hb5; obtain ⟨r0, r1, r2, r3, r4, r5⟩ := ksix_cells HS5.res; have fz := Lib.frozen_of_heap HS5.res))))
  exact HS5.done (r := (headK [102, 114, 111, 109] l (m + 1))) (e0 := 0) hKl hB (k := .mk 3 [102, 114, 111, 109] s 0 [] []) (ax := a4) (cx := c4) (lx := l4) (keyC_leaf _ _ 3 _ s 0 (by omega) (by decide)) HS5.words (fun _ => by
    unfold headK
    rcases hd.out with ⟨h, rfl⟩ | ⟨h, _, _, rfl⟩
    · rw [h]; exact ⟨rfl, rfl, rfl, rfl⟩
    · rw [h]; exact ⟨rfl, by decide⟩) (fun h => absurd rfl h) rfl rfl rfl
set_option linter.constructorNameAsVariable false in
set_option maxRecDepth 100000 in
set_option maxHeartbeats 16000000 in
theorem rkey_TO (D B K m : Nat) (hD : D ≤ 7) (hm : m ≤ 60) (a : Option Addr) (c : Nat) (t : Wd) (l : List Wd) (w : World) (h : KsC w K (m : Int) 0) (hw : WordsL w (fun j => j < B) (.slice a (t :: l).length c) (t :: l)) (hB : B ≤ K) (h60 : m + 1 ≤ 60) (h6 : D ≤ 6) (hk : t.kind ≠ 3) (hS : greatL t.text = [84, 79]) :
    Calls Tryz.prog 45 #[.pointer (some ⟨K, 0, none⟩), .slice a (t :: l).length c, .int .i64 (D : Int)] w (RKS B K (headK [116, 111] l (m + 1)) 0 w) := by
  have hKl : K < w.heap.size := (Array.getElem?_eq_some_iff.1 h).1
  have hst := kyR_start h hw hB ((m : Int) + 1)
  obtain ⟨c0, c1⟩ := two_cellsK (below_same ((Below.refl _ w).alloc (Nat.le_refl _) (.cells zero6 32)) h)
  have fz := Lib.frozen_of_heap (below_same ((Below.refl _ w).alloc (Nat.le_refl _) (.cells zero6 32)) h)
  go_enter Tryz.func45, Tryz.ntmps45
  go_upto_region 2 with fail
  obtain ⟨w1, hw1⟩ : ∃ w1, (w.setCell ⟨K, 0, none⟩ (.int .i64 ((m : Int) + 1))).alloc (.cells #[.int .i64 0, .string ⟨#[]⟩, .string ⟨#[]⟩, .int .i64 0, .slice none 0 0, .slice none 0 0] 32) = w1 := ⟨_, rfl⟩
  rw [hw1]
  have hst : KyR w B K ((m : Int) + 1) 0 (.slice a (t :: l).length c) (t :: l) w1 := hw1 ▸ hst
  clear hw1 c0 c1 fz
  obtain ⟨c0, c1⟩ := two_cellsK hst.ks
  have cW0 := kword_any K B ((m : Int) + 1) 0 a c (t :: l) w1 hst.ks hst.words hB
  obtain ⟨g, off, va, vc, rfl, -, hc1, hc2, hg, x0, x1, x2, ht, hl1, hl2⟩ := hst.words.cons
  have h1 : ¬ (60 : Int) < (m : Int) + 1 := by omega
  have h2 : ¬ (6 : Int) < (D : Int) := by omega
  have hkd : decide (t.kind = 3) = false := decide_eq_false hk
  have hkb : (t.kind == 3) = false := by rw [beq_eq_false_iff_ne]; exact hk
  have hwk : wordK (t :: l) = .ok (t.text, l) := by rw [wordK, if_neg hk]
  have cW : Calls Tryz.prog 70 #[.pointer (some ⟨K, 0, none⟩), .slice (some ⟨g, off, none⟩) (l.length + 1) c] w1 fun x w' => ∃ (a2 : Option Addr) (c2 : Nat), x = .returned (.tuple #[.string ⟨t.text.toArray⟩, .slice a2 l.length c2]) ∧ Hid (KyR w B K ((m : Int) + 1) 0 (.slice a2 l.length c2) l w') := cW0.mono (by
    rintro x w' ⟨s, a2, c2, l', e', rfl, hs, hwd, hks, hkk, hd⟩
    rcases hd.out with ⟨h, rfl⟩ | ⟨h, _⟩
    · rw [hwk] at h
      cases h
      exact ⟨a2, c2, rfl, hst.next hkk.out hks.out hwd.out⟩
    · rw [hwk] at h; cases h)
  have cGr := fun W => rgreat_any t.text W (by omega)
  rw [hS] at cGr
  clear cW0 hl1 hl2 x1 x2 hst h hw hk hwk hS
  have cSm := fun W => rsmall_any [84, 79] W (by decide)
  rw [show smallL [84, 79] = [116, 111] by decide +kernel] at cSm
  go_wp2_with (first
    | (go_at_call 70; (((with_reducible refine cW.mono ?_); rintro e4 w2 ⟨a2, c2, rfl, HS2⟩; obtain ⟨d0, d1⟩ := two_cellsK HS2.out.ks)))
    | (go_at_call 42; (((with_reducible refine (cGr w2).mono ?_); rintro e4 w3 ⟨rfl, hb3⟩; have HS := HS2.out.under hb3; clear d0 d1; obtain ⟨d0, d1⟩ := two_cellsK HS.ks; have cW3 := kword_any K B ((m : Int) + 1) 0 a2 c2 l w3 HS.ks HS.words hB)))
    | (go_at_call 70; (((with_reducible refine cW3.mono ?_); rintro e4 w4 ⟨s, a4, c4, l4, e', rfl, hs4, hwd, hks, hkk, hd⟩; have HS4 := HS.next hkk.out hks.out hwd.out)))
    | (go_at_call 33; (((with_reducible refine (cSm w4).mono ?_); rintro e4 w5 ⟨rfl, hb5⟩; have HS5 := HS4.under hb5; obtain ⟨r0, r1, r2, r3, r4, r5⟩ := ksix_cells HS5.res; have fz := Lib.frozen_of_heap HS5.res))))
  exact HS5.done (r := (headK [116, 111] l (m + 1))) (e0 := 0) hKl hB (k := .mk 3 [116, 111] s 0 [] []) (ax := a4) (cx := c4) (lx := l4) (keyC_leaf _ _ 3 _ s 0 (by omega) (by decide)) HS5.words (fun _ => by
    unfold headK
    rcases hd.out with ⟨h, rfl⟩ | ⟨h, _, _, rfl⟩
    · rw [h]; exact ⟨rfl, rfl, rfl, rfl⟩
    · rw [h]; exact ⟨rfl, by decide⟩) (fun h => absurd rfl h) rfl rfl rfl
set_option linter.constructorNameAsVariable false in
set_option maxRecDepth 100000 in
set_option maxHeartbeats 16000000 in
theorem rkey_SUBJECT (D B K m : Nat) (hD : D ≤ 7) (hm : m ≤ 60) (a : Option Addr) (c : Nat) (t : Wd) (l : List Wd) (w : World) (h : KsC w K (m : Int) 0) (hw : WordsL w (fun j => j < B) (.slice a (t :: l).length c) (t :: l)) (hB : B ≤ K) (h60 : m + 1 ≤ 60) (h6 : D ≤ 6) (hk : t.kind ≠ 3) (hS : greatL t.text = [83, 85, 66, 74, 69, 67, 84]) :
    Calls Tryz.prog 45 #[.pointer (some ⟨K, 0, none⟩), .slice a (t :: l).length c, .int .i64 (D : Int)] w (RKS B K (headK [115, 117, 98, 106, 101, 99, 116] l (m + 1)) 0 w) := by
  have hKl : K < w.heap.size := (Array.getElem?_eq_some_iff.1 h).1
  have hst := kyR_start h hw hB ((m : Int) + 1)
  obtain ⟨c0, c1⟩ := two_cellsK (below_same ((Below.refl _ w).alloc (Nat.le_refl _) (.cells zero6 32)) h)
  have fz := Lib.frozen_of_heap (below_same ((Below.refl _ w).alloc (Nat.le_refl _) (.cells zero6 32)) h)
  go_enter Tryz.func45, Tryz.ntmps45
  go_upto_region 2 with fail
  obtain ⟨w1, hw1⟩ : ∃ w1, (w.setCell ⟨K, 0, none⟩ (.int .i64 ((m : Int) + 1))).alloc (.cells #[.int .i64 0, .string ⟨#[]⟩, .string ⟨#[]⟩, .int .i64 0, .slice none 0 0, .slice none 0 0] 32) = w1 := ⟨_, rfl⟩
  rw [hw1]
  have hst : KyR w B K ((m : Int) + 1) 0 (.slice a (t :: l).length c) (t :: l) w1 := hw1 ▸ hst
  clear hw1 c0 c1 fz
  obtain ⟨c0, c1⟩ := two_cellsK hst.ks
  have cW0 := kword_any K B ((m : Int) + 1) 0 a c (t :: l) w1 hst.ks hst.words hB
  obtain ⟨g, off, va, vc, rfl, -, hc1, hc2, hg, x0, x1, x2, ht, hl1, hl2⟩ := hst.words.cons
  have h1 : ¬ (60 : Int) < (m : Int) + 1 := by omega
  have h2 : ¬ (6 : Int) < (D : Int) := by omega
  have hkd : decide (t.kind = 3) = false := decide_eq_false hk
  have hkb : (t.kind == 3) = false := by rw [beq_eq_false_iff_ne]; exact hk
  have hwk : wordK (t :: l) = .ok (t.text, l) := by rw [wordK, if_neg hk]
  have cW : Calls Tryz.prog 70 #[.pointer (some ⟨K, 0, none⟩), .slice (some ⟨g, off, none⟩) (l.length + 1) c] w1 fun x w' => ∃ (a2 : Option Addr) (c2 : Nat), x = .returned (.tuple #[.string ⟨t.text.toArray⟩, .slice a2 l.length c2]) ∧ Hid (KyR w B K ((m : Int) + 1) 0 (.slice a2 l.length c2) l w') := cW0.mono (by
    rintro x w' ⟨s, a2, c2, l', e', rfl, hs, hwd, hks, hkk, hd⟩
    rcases hd.out with ⟨h, rfl⟩ | ⟨h, _⟩
    · rw [hwk] at h
      cases h
      exact ⟨a2, c2, rfl, hst.next hkk.out hks.out hwd.out⟩
    · rw [hwk] at h; cases h)
  have cGr := fun W => rgreat_any t.text W (by omega)
  rw [hS] at cGr
  clear cW0 hl1 hl2 x1 x2 hst h hw hk hwk hS
  have cSm := fun W => rsmall_any [83, 85, 66, 74, 69, 67, 84] W (by decide)
  rw [show smallL [83, 85, 66, 74, 69, 67, 84] = [115, 117, 98, 106, 101, 99, 116] by decide +kernel] at cSm
  go_wp2_with (first
    | (go_at_call 70; (((with_reducible refine cW.mono ?_); rintro e4 w2 ⟨a2, c2, rfl, HS2⟩; obtain ⟨d0, d1⟩ := two_cellsK HS2.out.ks)))
    | (go_at_call 42; (((with_reducible refine (cGr w2).mono ?_); rintro e4 w3 ⟨rfl, hb3⟩; have HS := HS2.out.under hb3; clear d0 d1; obtain ⟨d0, d1⟩ := two_cellsK HS.ks; have cW3 := kword_any K B ((m : Int) + 1) 0 a2 c2 l w3 HS.ks HS.words hB)))
    | (go_at_call 70; (((with_reducible refine cW3.mono ?_); rintro e4 w4 ⟨s, a4, c4, l4, e', rfl, hs4, hwd, hks, hkk, hd⟩; have HS4 := HS.next hkk.out hks.out hwd.out)))
    | (go_at_call 33; (((with_reducible refine (cSm w4).mono ?_); rintro e4 w5 ⟨rfl, hb5⟩; have HS5 := HS4.under hb5; obtain ⟨r0, r1, r2, r3, r4, r5⟩ := ksix_cells HS5.res; have fz := Lib.frozen_of_heap HS5.res))))
  exact HS5.done (r := (headK [115, 117, 98, 106, 101, 99, 116] l (m + 1))) (e0 := 0) hKl hB (k := .mk 3 [115, 117, 98, 106, 101, 99, 116] s 0 [] []) (ax := a4) (cx := c4) (lx := l4) (keyC_leaf _ _ 3 _ s 0 (by omega) (by decide)) HS5.words (fun _ => by
    unfold headK
    rcases hd.out with ⟨h, rfl⟩ | ⟨h, _, _, rfl⟩
    · rw [h]; exact ⟨rfl, rfl, rfl, rfl⟩
    · rw [h]; exact ⟨rfl, by decide⟩) (fun h => absurd rfl h) rfl rfl rfl
set_option linter.constructorNameAsVariable false in
set_option maxRecDepth 100000 in
set_option maxHeartbeats 16000000 in
theorem rkey_CC (D B K m : Nat) (hD : D ≤ 7) (hm : m ≤ 60) (a : Option Addr) (c : Nat) (t : Wd) (l : List Wd) (w : World) (h : KsC w K (m : Int) 0) (hw : WordsL w (fun j => j < B) (.slice a (t :: l).length c) (t :: l)) (hB : B ≤ K) (h60 : m + 1 ≤ 60) (h6 : D ≤ 6) (hk : t.kind ≠ 3) (hS : greatL t.text = [67, 67]) :
    Calls Tryz.prog 45 #[.pointer (some ⟨K, 0, none⟩), .slice a (t :: l).length c, .int .i64 (D : Int)] w (RKS B K (headK [99, 99] l (m + 1)) 0 w) := by
  have hKl : K < w.heap.size := (Array.getElem?_eq_some_iff.1 h).1
  have hst := kyR_start h hw hB ((m : Int) + 1)
  obtain ⟨c0, c1⟩ := two_cellsK (below_same ((Below.refl _ w).alloc (Nat.le_refl _) (.cells zero6 32)) h)
  have fz := Lib.frozen_of_heap (below_same ((Below.refl _ w).alloc (Nat.le_refl _) (.cells zero6 32)) h)
  go_enter Tryz.func45, Tryz.ntmps45
  go_upto_region 2 with fail
  obtain ⟨w1, hw1⟩ : ∃ w1, (w.setCell ⟨K, 0, none⟩ (.int .i64 ((m : Int) + 1))).alloc (.cells #[.int .i64 0, .string ⟨#[]⟩, .string ⟨#[]⟩, .int .i64 0, .slice none 0 0, .slice none 0 0] 32) = w1 := ⟨_, rfl⟩
  rw [hw1]
  have hst : KyR w B K ((m : Int) + 1) 0 (.slice a (t :: l).length c) (t :: l) w1 := hw1 ▸ hst
  clear hw1 c0 c1 fz
  obtain ⟨c0, c1⟩ := two_cellsK hst.ks
  have cW0 := kword_any K B ((m : Int) + 1) 0 a c (t :: l) w1 hst.ks hst.words hB
  obtain ⟨g, off, va, vc, rfl, -, hc1, hc2, hg, x0, x1, x2, ht, hl1, hl2⟩ := hst.words.cons
  have h1 : ¬ (60 : Int) < (m : Int) + 1 := by omega
  have h2 : ¬ (6 : Int) < (D : Int) := by omega
  have hkd : decide (t.kind = 3) = false := decide_eq_false hk
  have hkb : (t.kind == 3) = false := by rw [beq_eq_false_iff_ne]; exact hk
  have hwk : wordK (t :: l) = .ok (t.text, l) := by rw [wordK, if_neg hk]
  have cW : Calls Tryz.prog 70 #[.pointer (some ⟨K, 0, none⟩), .slice (some ⟨g, off, none⟩) (l.length + 1) c] w1 fun x w' => ∃ (a2 : Option Addr) (c2 : Nat), x = .returned (.tuple #[.string ⟨t.text.toArray⟩, .slice a2 l.length c2]) ∧ Hid (KyR w B K ((m : Int) + 1) 0 (.slice a2 l.length c2) l w') := cW0.mono (by
    rintro x w' ⟨s, a2, c2, l', e', rfl, hs, hwd, hks, hkk, hd⟩
    rcases hd.out with ⟨h, rfl⟩ | ⟨h, _⟩
    · rw [hwk] at h
      cases h
      exact ⟨a2, c2, rfl, hst.next hkk.out hks.out hwd.out⟩
    · rw [hwk] at h; cases h)
  have cGr := fun W => rgreat_any t.text W (by omega)
  rw [hS] at cGr
  clear cW0 hl1 hl2 x1 x2 hst h hw hk hwk hS
  have cSm := fun W => rsmall_any [67, 67] W (by decide)
  rw [show smallL [67, 67] = [99, 99] by decide +kernel] at cSm
  go_wp2_with (first
    | (go_at_call 70; (((with_reducible refine cW.mono ?_); rintro e4 w2 ⟨a2, c2, rfl, HS2⟩; obtain ⟨d0, d1⟩ := two_cellsK HS2.out.ks)))
    | (go_at_call 42; (((with_reducible refine (cGr w2).mono ?_); rintro e4 w3 ⟨rfl, hb3⟩; have HS := HS2.out.under hb3; clear d0 d1; obtain ⟨d0, d1⟩ := two_cellsK HS.ks; have cW3 := kword_any K B ((m : Int) + 1) 0 a2 c2 l w3 HS.ks HS.words hB)))
    | (go_at_call 70; (((with_reducible refine cW3.mono ?_); rintro e4 w4 ⟨s, a4, c4, l4, e', rfl, hs4, hwd, hks, hkk, hd⟩; have HS4 := HS.next hkk.out hks.out hwd.out)))
    | (go_at_call 33; (((with_reducible refine (cSm w4).mono ?_); rintro e4 w5 ⟨rfl, hb5⟩; have HS5 := HS4.under hb5; obtain ⟨r0, r1, r2, r3, r4, r5⟩ := ksix_cells HS5.res; have fz := Lib.frozen_of_heap HS5.res))))
  exact HS5.done (r := (headK [99, 99] l (m + 1))) (e0 := 0) hKl hB (k := .mk 3 [99, 99] s 0 [] []) (ax := a4) (cx := c4) (lx := l4) (keyC_leaf _ _ 3 _ s 0 (by omega) (by decide)) HS5.words (fun _ => by
    unfold headK
    rcases hd.out with ⟨h, rfl⟩ | ⟨h, _, _, rfl⟩
    · rw [h]; exact ⟨rfl, rfl, rfl, rfl⟩
    · rw [h]; exact ⟨rfl, by decide⟩) (fun h => absurd rfl h) rfl rfl rfl
end Go.Proofs.YtcahhnjponeeeaaGreatDoor
namespace Go.Proofs.YtcahhnjponeeeaaGreatDoor
open Go.RowKit Go.Shelf Go.Sort
set_option linter.unusedSimpArgs false
def kwK (un : Bool) (l : List Wd) (n : Nat) : KeyE := match flagK l with
  | .error e => .error e
  | .ok (t, l') => .ok (if un then notK (.mk 2 t [] 0 [] []) else .mk 2 t [] 0 [] [], l', n)
def hdK (l : List Wd) (n : Nat) : KeyE := match wordK l with
  | .error e => .error e
  | .ok (t, l') => headK (smallL t) l' n
/-- what is left of a flag by its name, and what was wrong -/
theorem kw_rel {un : Bool} {l l4 : List Wd} {s nm : List UInt8} {e4 e5 : Int} {n : Nat} (h1 : (wordK l = .ok (s, l4) ∧ e4 = 0) ∨ (wordK l = .error 3 ∧ s = [] ∧ l4 = [] ∧ e4 = faultK 3 0)) (h2 : (nameF s = .inr nm ∧ e5 = e4) ∨ ∃ E : Nat, nameF s = .inl E ∧ nm = [] ∧ e5 = faultK (E : Int) e4) :
    match kwK un l n with | .ok (k0, l0, n0) => (if un then notK (.mk 2 nm [] 0 [] []) else .mk 2 nm [] 0 [] []) = k0 ∧ l4 = l0 ∧ (n : Int) = (n0 : Int) ∧ e5 = 0 | .error E => e5 = (E : Int) ∧ 0 < E := by
  unfold kwK flagK
  rcases h1 with ⟨h, rfl⟩ | ⟨h, _, _, rfl⟩
  · rw [h]
    rcases h2 with ⟨h', rfl⟩ | ⟨E, h', _, rfl⟩
    · simp only [h']
      refine ⟨?_, ?_, ?_, ?_⟩ <;> first | trivial | rfl
    · simp only [h']
      exact ⟨rfl, nameF_pos h'⟩
  · rw [h]
    rcases h2 with ⟨_, rfl⟩ | ⟨E, _, _, rfl⟩
    · exact ⟨rfl, by decide⟩
    · exact ⟨rfl, by decide⟩
set_option linter.constructorNameAsVariable false in
set_option maxRecDepth 100000 in
set_option maxHeartbeats 16000000 in
theorem rkey_HEADER (D B K m : Nat) (hD : D ≤ 7) (hm : m ≤ 60) (a : Option Addr) (c : Nat) (t : Wd) (l : List Wd) (w : World) (h : KsC w K (m : Int) 0) (hw : WordsL w (fun j => j < B) (.slice a (t :: l).length c) (t :: l)) (hB : B ≤ K) (h60 : m + 1 ≤ 60) (h6 : D ≤ 6) (hk : t.kind ≠ 3) (hS : greatL t.text = [72, 69, 65, 68, 69, 82]) :
    Calls Tryz.prog 45 #[.pointer (some ⟨K, 0, none⟩), .slice a (t :: l).length c, .int .i64 (D : Int)] w (RKS B K (hdK l (m + 1)) 0 w) := by
  have hKl : K < w.heap.size := (Array.getElem?_eq_some_iff.1 h).1
  have hst := kyR_start h hw hB ((m : Int) + 1)
  obtain ⟨c0, c1⟩ := two_cellsK (below_same ((Below.refl _ w).alloc (Nat.le_refl _) (.cells zero6 32)) h)
  have fz := Lib.frozen_of_heap (below_same ((Below.refl _ w).alloc (Nat.le_refl _) (.cells zero6 32)) h)
  go_enter Tryz.func45, Tryz.ntmps45
  go_upto_region 2 with fail
  obtain ⟨w1, hw1⟩ : ∃ w1, (w.setCell ⟨K, 0, none⟩ (.int .i64 ((m : Int) + 1))).alloc (.cells #[.int .i64 0, .string ⟨#[]⟩, .string ⟨#[]⟩, .int .i64 0, .slice none 0 0, .slice none 0 0] 32) = w1 := ⟨_, rfl⟩
  rw [hw1]
  have hst : KyR w B K ((m : Int) + 1) 0 (.slice a (t :: l).length c) (t :: l) w1 := hw1 ▸ hst
  clear hw1 c0 c1 fz
  obtain ⟨c0, c1⟩ := two_cellsK hst.ks
  have cW0 := kword_any K B ((m : Int) + 1) 0 a c (t :: l) w1 hst.ks hst.words hB
  obtain ⟨g, off, va, vc, rfl, -, hc1, hc2, hg, x0, x1, x2, ht, hl1, hl2⟩ := hst.words.cons
  have h1 : ¬ (60 : Int) < (m : Int) + 1 := by omega
  have h2 : ¬ (6 : Int) < (D : Int) := by omega
  have hkd : decide (t.kind = 3) = false := decide_eq_false hk
  have hkb : (t.kind == 3) = false := by rw [beq_eq_false_iff_ne]; exact hk
  have hwk : wordK (t :: l) = .ok (t.text, l) := by rw [wordK, if_neg hk]
  have cW : Calls Tryz.prog 70 #[.pointer (some ⟨K, 0, none⟩), .slice (some ⟨g, off, none⟩) (l.length + 1) c] w1 fun x w' => ∃ (a2 : Option Addr) (c2 : Nat), x = .returned (.tuple #[.string ⟨t.text.toArray⟩, .slice a2 l.length c2]) ∧ Hid (KyR w B K ((m : Int) + 1) 0 (.slice a2 l.length c2) l w') := cW0.mono (by
    rintro x w' ⟨s, a2, c2, l', e', rfl, hs, hwd, hks, hkk, hd⟩
    rcases hd.out with ⟨h, rfl⟩ | ⟨h, _⟩
    · rw [hwk] at h
      cases h
      exact ⟨a2, c2, rfl, hst.next hkk.out hks.out hwd.out⟩
    · rw [hwk] at h; cases h)
  have cGr := fun W => rgreat_any t.text W (by omega)
  rw [hS] at cGr
  clear cW0 hl1 hl2 x1 x2 hst h hw hk hwk hS
  go_wp2_with (first
    | (go_at_call 70; (((with_reducible refine cW.mono ?_); rintro e4 w2 ⟨a2, c2, rfl, HS2⟩; obtain ⟨d0, d1⟩ := two_cellsK HS2.out.ks)))
    | (go_at_call 42; (((with_reducible refine (cGr w2).mono ?_); rintro e4 w3 ⟨rfl, hb3⟩; have HS := HS2.out.under hb3; clear d0 d1; obtain ⟨d0, d1⟩ := two_cellsK HS.ks; have cW3 := kword_any K B ((m : Int) + 1) 0 a2 c2 l w3 HS.ks HS.words hB)))
    | (go_at_call 70; (((with_reducible refine cW3.mono ?_); rintro e4 w4 ⟨s, a4, c4, l4, e', rfl, hs4, hwd, hks, hkk, hd⟩; have HS4 := HS.next hkk.out hks.out hwd.out; have cW4 := kword_any K B ((m : Int) + 1) e' a4 c4 l4 w4 HS4.ks HS4.words hB)))
    | (go_at_call 70; (((with_reducible refine cW4.mono ?_); rintro e4 w5 ⟨s5, a5, c5, l5, e5, rfl, hs5, hwd5, hks5, hkk5, hd5⟩; have HS5 := HS4.next hkk5.out hks5.out hwd5.out; have cSm := fun W => rsmall_any s W (by omega))))
    | (go_at_call 33; (((with_reducible refine (cSm w5).mono ?_); rintro e4 w6 ⟨rfl, hb6⟩; have HS6 := HS5.under hb6; obtain ⟨r0, r1, r2, r3, r4, r5⟩ := ksix_cells HS6.res; have fz := Lib.frozen_of_heap HS6.res))))
  exact HS6.done (r := hdK l (m + 1)) (e0 := 0) hKl hB (k := .mk 3 (smallL s) s5 0 [] []) (ax := a5) (cx := c5) (lx := l5) (keyC_leaf _ _ 3 _ s5 0 (by omega) (by decide)) HS6.words (fun _ => by
    unfold hdK headK
    rcases hd.out with ⟨h, rfl⟩ | ⟨h, _, rfl, rfl⟩
    · rw [h]
      rcases hd5.out with ⟨h', rfl⟩ | ⟨h', _, _, rfl⟩
      · simp only [h']; refine ⟨?_, ?_, ?_, ?_⟩ <;> first | trivial | rfl
      · simp only [h']; exact ⟨rfl, by decide⟩
    · rw [h]
      rcases hd5.out with ⟨h', _⟩ | ⟨_, _, _, rfl⟩
      · cases h'
      · exact ⟨rfl, by decide⟩) (fun h => absurd rfl h) rfl rfl rfl
end Go.Proofs.YtcahhnjponeeeaaGreatDoor
namespace Go.Proofs.YtcahhnjponeeeaaGreatDoor
open Go.RowKit Go.Shelf Go.Sort
set_option linter.unusedSimpArgs false
set_option linter.constructorNameAsVariable false in
set_option maxRecDepth 100000 in
set_option maxHeartbeats 16000000 in
theorem rkey_KEYWORD (D B K m : Nat) (hD : D ≤ 7) (hm : m ≤ 60) (a : Option Addr) (c : Nat) (t : Wd) (l : List Wd) (w : World) (h : KsC w K (m : Int) 0) (hw : WordsL w (fun j => j < B) (.slice a (t :: l).length c) (t :: l)) (hB : B ≤ K) (h60 : m + 1 ≤ 60) (h6 : D ≤ 6) (hk : t.kind ≠ 3) (hS : greatL t.text = [75, 69, 89, 87, 79, 82, 68]) :
    Calls Tryz.prog 45 #[.pointer (some ⟨K, 0, none⟩), .slice a (t :: l).length c, .int .i64 (D : Int)] w (RKS B K (kwK false l (m + 1)) 0 w) := by
  have hKl : K < w.heap.size := (Array.getElem?_eq_some_iff.1 h).1
  have hst := kyR_start h hw hB ((m : Int) + 1)
  obtain ⟨c0, c1⟩ := two_cellsK (below_same ((Below.refl _ w).alloc (Nat.le_refl _) (.cells zero6 32)) h)
  have fz := Lib.frozen_of_heap (below_same ((Below.refl _ w).alloc (Nat.le_refl _) (.cells zero6 32)) h)
  go_enter Tryz.func45, Tryz.ntmps45
  go_upto_region 2 with fail
  obtain ⟨w1, hw1⟩ : ∃ w1, (w.setCell ⟨K, 0, none⟩ (.int .i64 ((m : Int) + 1))).alloc (.cells #[.int .i64 0, .string ⟨#[]⟩, .string ⟨#[]⟩, .int .i64 0, .slice none 0 0, .slice none 0 0] 32) = w1 := ⟨_, rfl⟩
  rw [hw1]
  have hst : KyR w B K ((m : Int) + 1) 0 (.slice a (t :: l).length c) (t :: l) w1 := hw1 ▸ hst
  clear hw1 c0 c1 fz
  obtain ⟨c0, c1⟩ := two_cellsK hst.ks
  have cW0 := kword_any K B ((m : Int) + 1) 0 a c (t :: l) w1 hst.ks hst.words hB
  obtain ⟨g, off, va, vc, rfl, -, hc1, hc2, hg, x0, x1, x2, ht, hl1, hl2⟩ := hst.words.cons
  have h1 : ¬ (60 : Int) < (m : Int) + 1 := by omega
  have h2 : ¬ (6 : Int) < (D : Int) := by omega
  have hkd : decide (t.kind = 3) = false := decide_eq_false hk
  have hkb : (t.kind == 3) = false := by rw [beq_eq_false_iff_ne]; exact hk
  have hwk : wordK (t :: l) = .ok (t.text, l) := by rw [wordK, if_neg hk]
  have cW : Calls Tryz.prog 70 #[.pointer (some ⟨K, 0, none⟩), .slice (some ⟨g, off, none⟩) (l.length + 1) c] w1 fun x w' => ∃ (a2 : Option Addr) (c2 : Nat), x = .returned (.tuple #[.string ⟨t.text.toArray⟩, .slice a2 l.length c2]) ∧ Hid (KyR w B K ((m : Int) + 1) 0 (.slice a2 l.length c2) l w') := cW0.mono (by
    rintro x w' ⟨s, a2, c2, l', e', rfl, hs, hwd, hks, hkk, hd⟩
    rcases hd.out with ⟨h, rfl⟩ | ⟨h, _⟩
    · rw [hwk] at h
      cases h
      exact ⟨a2, c2, rfl, hst.next hkk.out hks.out hwd.out⟩
    · rw [hwk] at h; cases h)
  have cGr := fun W => rgreat_any t.text W (by omega)
  rw [hS] at cGr
  clear cW0 hl1 hl2 x1 x2 hst h hw hk hwk hS
  go_wp2_with (first
    | (go_at_call 70; (((with_reducible refine cW.mono ?_); rintro e4 w2 ⟨a2, c2, rfl, HS2⟩; obtain ⟨d0, d1⟩ := two_cellsK HS2.out.ks)))
    | (go_at_call 42; (((with_reducible refine (cGr w2).mono ?_); rintro e4 w3 ⟨rfl, hb3⟩; have HS := HS2.out.under hb3; clear d0 d1; obtain ⟨d0, d1⟩ := two_cellsK HS.ks; have cW3 := kword_any K B ((m : Int) + 1) 0 a2 c2 l w3 HS.ks HS.words hB)))
    | (go_at_call 70; (((with_reducible refine cW3.mono ?_); rintro e4 w4 ⟨s, a4, c4, l4, e', rfl, hs4, hwd, hks, hkk, hd⟩; have HS4 := HS.next hkk.out hks.out hwd.out; have cFl := kflag_any K ((m : Int) + 1) e' s w4 HS4.ks (by omega))))
    | (go_at_call 71; (((with_reducible refine cFl.mono ?_); rintro e4 w5 ⟨nm, e5, rfl, hks5, hkk5, hd5⟩; have HS5 := HS4.next hkk5.out hks5.out (HS4.words.kept hkk5.out (fun j hj e => by have : j = K := e; omega)); have y6 : Below w5.heap.size w5 (w5.alloc (.cells #[.int .i64 2, .string ⟨nm.toArray⟩, .string ⟨#[]⟩, .int .i64 0, .slice none 0 0, .slice none 0 0] 32)) := (Below.refl _ _).alloc (Nat.le_refl _) _; have HS6 := HS5.under y6; obtain ⟨r0, r1, r2, r3, r4, r5⟩ := ksix_cells HS6.res; have fz := Lib.frozen_of_heap HS6.res))))
  exact HS6.done (r := (kwK false l (m + 1))) (e0 := 0) hKl hB (k := .mk 2 nm [] 0 [] []) (ax := a4) (cx := c4) (lx := l4) (keyC_leaf _ _ 2 nm [] 0 (by decide) (by decide)) HS6.words (fun _ => kw_rel (un := false) hd.out hd5.out) (fun h => absurd rfl h) rfl rfl rfl
end Go.Proofs.YtcahhnjponeeeaaGreatDoor
namespace Go.Proofs.YtcahhnjponeeeaaGreatDoor
open Go.RowKit Go.Shelf Go.Sort
set_option linter.unusedSimpArgs false
theorem wordK_three {l : List Wd} {E : Nat} (h : wordK l = .error E) : E = 3 := by
  cases l with
  | nil => cases h; rfl
  | cons t l => rw [wordK] at h; split at h <;> cases h; rfl
theorem kword_ok {w W : World} {B K : Nat} {n : Int} {a : Option Addr} {c : Nat} {l l4 : List Wd} {s : List UInt8} (HS : KyR w B K n 0 (.slice a l.length c) l W) (hB : B ≤ K) (h : wordK l = .ok (s, l4)) :
    Calls Tryz.prog 70 #[.pointer (some ⟨K, 0, none⟩), .slice a l.length c] W fun x w' => ∃ (a4 : Option Addr) (c4 : Nat), x = .returned (.tuple #[.string ⟨s.toArray⟩, .slice a4 l4.length c4]) ∧ s.length ≤ 1000000 ∧ Hid (KyR w B K n 0 (.slice a4 l4.length c4) l4 w') :=
  (kword_any K B n 0 a c l W HS.ks HS.words hB).mono (by
    rintro x w' ⟨s', a4, c4, l', e', rfl, hs, hwd, hks, hkk, hd⟩
    rcases hd.out with ⟨h', rfl⟩ | ⟨h', _⟩
    · rw [h] at h'; cases h'
      exact ⟨a4, c4, rfl, hs, HS.next hkk.out hks.out hwd.out⟩
    · rw [h] at h'; cases h')
theorem kword_bad {w W : World} {B K : Nat} {n : Int} {a : Option Addr} {c : Nat} {l : List Wd} {E : Nat} (HS : KyR w B K n 0 (.slice a l.length c) l W) (hB : B ≤ K) (h : wordK l = .error E) :
    Calls Tryz.prog 70 #[.pointer (some ⟨K, 0, none⟩), .slice a l.length c] W fun x w' => ∃ (a4 : Option Addr) (c4 : Nat), x = .returned (.tuple #[.string ⟨#[]⟩, .slice a4 0 c4]) ∧ Hid (KyR w B K n 3 (.slice a4 0 c4) [] w') :=
  (kword_any K B n 0 a c l W HS.ks HS.words hB).mono (by
    rintro x w' ⟨s', a4, c4, l', e', rfl, hs, hwd, hks, hkk, hd⟩
    rcases hd.out with ⟨h', rfl⟩ | ⟨_, rfl, rfl, rfl⟩
    · rw [h] at h'; cases h'
    · exact ⟨a4, c4, rfl, HS.next hkk.out hks.out hwd.out⟩)
def uidK (l : List Wd) (n : Nat) : KeyE := match wordK l with
  | .error e => .error e
  | .ok (t, l') => match parseS t with
    | .error e => .error e
    | .ok r => .ok (.mk 11 [] [] 0 r [], l', n)
theorem kset_bad {K : Nat} {n : Int} {s : List UInt8} {w : World} {E : Nat} (h : KsC w K n 0) (hs : s.length ≤ 1000000) (hG : StrG w ∧ MaxG w) (hp : parseS s = .error E) :
    Calls Tryz.prog 73 #[.pointer (some ⟨K, 0, none⟩), .string ⟨s.toArray⟩] w fun x w' => x = .returned (.slice none 0 0) ∧ Hid (KsC w' K n (E : Int)) ∧ Hid (Kept (fun j => j = K) w w') :=
  (kset_any K n 0 s w h hs hG.1 hG.2).mono (by
    intro x w' h; unfold KSetS at h; rw [hp] at h; exact h)
theorem kset_ok {K : Nat} {n : Int} {s : List UInt8} {w : World} {r : List Rg} (h : KsC w K n 0) (hs : s.length ≤ 1000000) (hG : StrG w ∧ MaxG w) (hp : parseS s = .ok r) :
    Calls Tryz.prog 73 #[.pointer (some ⟨K, 0, none⟩), .string ⟨s.toArray⟩] w fun x w' => ∃ (sa : Option Addr) (sc : Nat), x = .returned (.slice sa r.length sc) ∧ Hid (KsC w' K n 0) ∧ Hid (Kept (fun j => j = K) w w') ∧ Hid (RgRow w' (.slice sa r.length sc) r ∧ ∀ g, (Value.slice sa r.length sc).ownBlock = some g → w.heap.size ≤ g) :=
  (kset_any K n 0 s w h hs hG.1 hG.2).mono (by
    intro x w' h; unfold KSetS at h; rw [hp] at h
    obtain ⟨v, rfl, ho, hks, hkk⟩ := h
    have hr := rg_of_owns ho.out
    obtain ⟨sa, sc, rfl⟩ := rg_slice hr
    exact ⟨sa, sc, rfl, hks, hkk, hr, fun g hg => (ho.out.lt g hg).1⟩)
set_option linter.constructorNameAsVariable false in
set_option maxRecDepth 100000 in
set_option maxHeartbeats 16000000 in
theorem rkey_UID (D B K m : Nat) (hD : D ≤ 7) (hm : m ≤ 60) (a : Option Addr) (c : Nat) (t : Wd) (l : List Wd) (w : World) (h : KsC w K (m : Int) 0) (hw : WordsL w (fun j => j < B) (.slice a (t :: l).length c) (t :: l)) (hB : B ≤ K) (h60 : m + 1 ≤ 60) (h6 : D ≤ 6) (hk : t.kind ≠ 3) (hG : GW K w) (hS : greatL t.text = [85, 73, 68]) :
    Calls Tryz.prog 45 #[.pointer (some ⟨K, 0, none⟩), .slice a (t :: l).length c, .int .i64 (D : Int)] w (RKS B K (uidK l (m + 1)) 0 w) := by
  have hKl : K < w.heap.size := (Array.getElem?_eq_some_iff.1 h).1
  have hst := kyR_start h hw hB ((m : Int) + 1)
  obtain ⟨c0, c1⟩ := two_cellsK (below_same ((Below.refl _ w).alloc (Nat.le_refl _) (.cells zero6 32)) h)
  have fz := Lib.frozen_of_heap (below_same ((Below.refl _ w).alloc (Nat.le_refl _) (.cells zero6 32)) h)
  go_enter Tryz.func45, Tryz.ntmps45
  go_upto_region 2 with fail
  obtain ⟨w1, hw1⟩ : ∃ w1, (w.setCell ⟨K, 0, none⟩ (.int .i64 ((m : Int) + 1))).alloc (.cells #[.int .i64 0, .string ⟨#[]⟩, .string ⟨#[]⟩, .int .i64 0, .slice none 0 0, .slice none 0 0] 32) = w1 := ⟨_, rfl⟩
  rw [hw1]
  have hst : KyR w B K ((m : Int) + 1) 0 (.slice a (t :: l).length c) (t :: l) w1 := hw1 ▸ hst
  clear hw1 c0 c1 fz
  obtain ⟨c0, c1⟩ := two_cellsK hst.ks
  have cW0 := kword_any K B ((m : Int) + 1) 0 a c (t :: l) w1 hst.ks hst.words hB
  obtain ⟨g, off, va, vc, rfl, -, hc1, hc2, hg, x0, x1, x2, ht, hl1, hl2⟩ := hst.words.cons
  have h1 : ¬ (60 : Int) < (m : Int) + 1 := by omega
  have h2 : ¬ (6 : Int) < (D : Int) := by omega
  have hkd : decide (t.kind = 3) = false := decide_eq_false hk
  have hkb : (t.kind == 3) = false := by rw [beq_eq_false_iff_ne]; exact hk
  have hwk : wordK (t :: l) = .ok (t.text, l) := by rw [wordK, if_neg hk]
  have cW : Calls Tryz.prog 70 #[.pointer (some ⟨K, 0, none⟩), .slice (some ⟨g, off, none⟩) (l.length + 1) c] w1 fun x w' => ∃ (a2 : Option Addr) (c2 : Nat), x = .returned (.tuple #[.string ⟨t.text.toArray⟩, .slice a2 l.length c2]) ∧ Hid (KyR w B K ((m : Int) + 1) 0 (.slice a2 l.length c2) l w') := cW0.mono (by
    rintro x w' ⟨s, a2, c2, l', e', rfl, hs, hwd, hks, hkk, hd⟩
    rcases hd.out with ⟨h, rfl⟩ | ⟨h, _⟩
    · rw [hwk] at h
      cases h
      exact ⟨a2, c2, rfl, hst.next hkk.out hks.out hwd.out⟩
    · rw [hwk] at h; cases h)
  have cGr := fun W => rgreat_any t.text W (by omega)
  rw [hS] at cGr
  clear cW0 hl1 hl2 x1 x2 hst h hw hk hwk hS
  cases hw3 : wordK l with
  | error E =>
    have hr : uidK l (m + 1) = .error 3 := by unfold uidK; rw [hw3, wordK_three hw3]
    have HR := Lib.hid hr
    clear hr
    go_wp2_with (first
      | (go_at_call 70; (((with_reducible refine cW.mono ?_); rintro e4 w2 ⟨a2, c2, rfl, HS2⟩; obtain ⟨d0, d1⟩ := two_cellsK HS2.out.ks)))
      | (go_at_call 42; (((with_reducible refine (cGr w2).mono ?_); rintro e4 w3 ⟨rfl, hb3⟩; have HS := HS2.out.under hb3; clear d0 d1; obtain ⟨d0, d1⟩ := two_cellsK HS.ks; have cW3 := kword_bad HS hB hw3)))
      | (go_at_call 70; (((with_reducible refine cW3.mono ?_); rintro e4 w4 ⟨a4, c4, rfl, HS4⟩; obtain ⟨k0, k1⟩ := two_cellsK HS4.out.ks; obtain ⟨r0, r1, r2, r3, r4, r5⟩ := ksix_cells HS4.out.res; have fz := Lib.frozen_of_heap HS4.out.res))))
    exact HS4.out.done (r := uidK l (m + 1)) (e0 := 0) hKl hB (ax := none) (cx := 0) (lx := []) (k := .mk 0 [] [] 0 [] []) (keyC_leaf _ _ 0 [] [] 0 (by decide) (by decide)) (wordsL_nil _ _) (fun _ => by rw [HR.out]; exact ⟨rfl, by decide⟩) (fun h => absurd rfl h) rfl rfl rfl
  | ok z =>
    obtain ⟨s, l4⟩ := z
    cases hp : parseS s with
    | error E =>
      have hr : uidK l (m + 1) = .error E := by unfold uidK; simp only [hw3, hp]
      have HR := Lib.hid hr
      clear hr
      have hpos := Lib.hid (parseS_pos hp)
      go_wp2_with (first
        | (go_at_call 70; (((with_reducible refine cW.mono ?_); rintro e4 w2 ⟨a2, c2, rfl, HS2⟩; obtain ⟨d0, d1⟩ := two_cellsK HS2.out.ks)))
        | (go_at_call 42; (((with_reducible refine (cGr w2).mono ?_); rintro e4 w3 ⟨rfl, hb3⟩; have HS := HS2.out.under hb3; clear d0 d1; obtain ⟨d0, d1⟩ := two_cellsK HS.ks; have cW3 := kword_ok HS hB hw3)))
        | (go_at_call 70; (((with_reducible refine cW3.mono ?_); rintro e4 w4 ⟨a4, c4, rfl, hs4, HS4⟩; obtain ⟨k0, k1⟩ := two_cellsK HS4.out.ks; have cSt := kset_bad HS4.out.ks hs4 (hG.next HS4.out.kept).at hp)))
        | (go_at_call 73; (((with_reducible refine cSt.mono ?_); rintro e4 w5 ⟨rfl, hks, hkk⟩; have HS5 := HS4.out.next hkk.out hks.out (HS4.out.words.kept hkk.out (fun j hj e => by have : j = K := e; omega)); obtain ⟨r0, r1, r2, r3, r4, r5⟩ := ksix_cells HS5.res; have fz := Lib.frozen_of_heap HS5.res))))
      exact HS5.done (r := uidK l (m + 1)) (e0 := 0) hKl hB (ax := a4) (cx := c4) (lx := l4) (k := .mk 11 [] [] 0 [] []) (keyC_leaf _ _ 11 [] [] 0 (by decide) (by decide)) HS5.words (fun _ => by rw [HR.out]; exact ⟨rfl, hpos.out⟩) (fun h => absurd rfl h) rfl rfl rfl
    | ok rg =>
      have hr : uidK l (m + 1) = .ok (.mk 11 [] [] 0 rg [], l4, m + 1) := by unfold uidK; simp only [hw3, hp]
      have HR := Lib.hid hr
      clear hr
      go_wp2_with (first
        | (go_at_call 70; (((with_reducible refine cW.mono ?_); rintro e4 w2 ⟨a2, c2, rfl, HS2⟩; obtain ⟨d0, d1⟩ := two_cellsK HS2.out.ks)))
        | (go_at_call 42; (((with_reducible refine (cGr w2).mono ?_); rintro e4 w3 ⟨rfl, hb3⟩; have HS := HS2.out.under hb3; clear d0 d1; obtain ⟨d0, d1⟩ := two_cellsK HS.ks; have cW3 := kword_ok HS hB hw3)))
        | (go_at_call 70; (((with_reducible refine cW3.mono ?_); rintro e4 w4 ⟨a4, c4, rfl, hs4, HS4⟩; obtain ⟨k0, k1⟩ := two_cellsK HS4.out.ks; have cSt := kset_ok HS4.out.ks hs4 (hG.next HS4.out.kept).at hp)))
        | (go_at_call 73; (((with_reducible refine cSt.mono ?_); rintro e4 w5 ⟨sa, sc, rfl, hks, hkk, hrg⟩; have HS5 := HS4.out.next hkk.out hks.out (HS4.out.words.kept hkk.out (fun j hj e => by have : j = K := e; omega)); obtain ⟨r0, r1, r2, r3, r4, r5⟩ := ksix_cells HS5.res; have fz := Lib.frozen_of_heap HS5.res))))
      have hlt : w.heap.size < w4.heap.size := (Array.getElem?_eq_some_iff.1 HS4.out.res).1
      exact HS5.done (r := uidK l (m + 1)) (e0 := 0) hKl hB (ax := a4) (cx := c4) (lx := l4) (k := .mk 11 [] [] 0 rg []) (keyC_set hrg.out.1 (fun g hg => Nat.lt_of_lt_of_le hlt (hrg.out.2 g hg)) (by decide)) HS5.words (fun _ => by rw [HR.out]; exact ⟨rfl, rfl, rfl, rfl⟩) (fun h => absurd rfl h) rfl rfl rfl
end Go.Proofs.YtcahhnjponeeeaaGreatDoor
namespace Go.Proofs.YtcahhnjponeeeaaGreatDoor
open Go.RowKit Go.Shelf Go.Sort
set_option linter.unusedSimpArgs false
/-- all words that begin something else -/
def wordsAll : List (List UInt8) := [[65, 76, 76], [83, 69, 69, 78], [65, 78, 83, 87, 69, 82, 69, 68], [70, 76, 65, 71, 71, 69, 68], [68, 69, 76, 69, 84, 69, 68], [68, 82, 65, 70, 84], [85, 78, 83, 69, 69, 78], [85, 78, 65, 78, 83, 87, 69, 82, 69, 68], [85, 78, 70, 76, 65, 71, 71, 69, 68], [85, 78, 68, 69, 76, 69, 84, 69, 68], [85, 78, 68, 82, 65, 70, 84], [75, 69, 89, 87, 79, 82, 68], [85, 78, 75, 69, 89, 87, 79, 82, 68], [70, 82, 79, 77], [84, 79], [83, 85, 66, 74, 69, 67, 84], [67, 67], [72, 69, 65, 68, 69, 82], [66, 79, 68, 89], [84, 69, 88, 84], [76, 65, 82, 71, 69, 82], [83, 77, 65, 76, 76, 69, 82], [66, 69, 70, 79, 82, 69], [79, 78], [83, 73, 78, 67, 69], [85, 73, 68], [78, 79, 84], [79, 82]]
def setWK (w : List UInt8) (l : List Wd) (n : Nat) : KeyE := match parseS w with
  | .error e => .error e
  | .ok r => .ok (.mk 12 [] [] 0 r [], l, n)
set_option linter.constructorNameAsVariable false in
set_option maxRecDepth 100000 in
set_option maxHeartbeats 16000000 in
theorem rkey_set (D B K m : Nat) (hD : D ≤ 7) (hm : m ≤ 60) (a : Option Addr) (c : Nat) (t : Wd) (l : List Wd) (w : World) (h : KsC w K (m : Int) 0) (hw : WordsL w (fun j => j < B) (.slice a (t :: l).length c) (t :: l)) (hB : B ≤ K) (h60 : m + 1 ≤ 60) (h6 : D ≤ 6) (hk : t.kind ≠ 3) (hG : GW K w) (U : List UInt8) (hS : greatL t.text = U) (hU : ∀ x ∈ wordsAll, U ≠ x) :
    Calls Tryz.prog 45 #[.pointer (some ⟨K, 0, none⟩), .slice a (t :: l).length c, .int .i64 (D : Int)] w (RKS B K (setWK t.text l (m + 1)) 0 w) := by
  have hKl : K < w.heap.size := (Array.getElem?_eq_some_iff.1 h).1
  have hst := kyR_start h hw hB ((m : Int) + 1)
  obtain ⟨c0, c1⟩ := two_cellsK (below_same ((Below.refl _ w).alloc (Nat.le_refl _) (.cells zero6 32)) h)
  have fz := Lib.frozen_of_heap (below_same ((Below.refl _ w).alloc (Nat.le_refl _) (.cells zero6 32)) h)
  go_enter Tryz.func45, Tryz.ntmps45
  go_upto_region 2 with fail
  obtain ⟨w1, hw1⟩ : ∃ w1, (w.setCell ⟨K, 0, none⟩ (.int .i64 ((m : Int) + 1))).alloc (.cells #[.int .i64 0, .string ⟨#[]⟩, .string ⟨#[]⟩, .int .i64 0, .slice none 0 0, .slice none 0 0] 32) = w1 := ⟨_, rfl⟩
  rw [hw1]
  have hst : KyR w B K ((m : Int) + 1) 0 (.slice a (t :: l).length c) (t :: l) w1 := hw1 ▸ hst
  clear hw1 c0 c1 fz
  obtain ⟨c0, c1⟩ := two_cellsK hst.ks
  have cW0 := kword_any K B ((m : Int) + 1) 0 a c (t :: l) w1 hst.ks hst.words hB
  obtain ⟨g, off, va, vc, rfl, -, hc1, hc2, hg, x0, x1, x2, ht, hl1, hl2⟩ := hst.words.cons
  have h1 : ¬ (60 : Int) < (m : Int) + 1 := by omega
  have h2 : ¬ (6 : Int) < (D : Int) := by omega
  have hkd : decide (t.kind = 3) = false := decide_eq_false hk
  have hkb : (t.kind == 3) = false := by rw [beq_eq_false_iff_ne]; exact hk
  have hwk : wordK (t :: l) = .ok (t.text, l) := by rw [wordK, if_neg hk]
  have cW : Calls Tryz.prog 70 #[.pointer (some ⟨K, 0, none⟩), .slice (some ⟨g, off, none⟩) (l.length + 1) c] w1 fun x w' => ∃ (a2 : Option Addr) (c2 : Nat), x = .returned (.tuple #[.string ⟨t.text.toArray⟩, .slice a2 l.length c2]) ∧ Hid (KyR w B K ((m : Int) + 1) 0 (.slice a2 l.length c2) l w') := cW0.mono (by
    rintro x w' ⟨s, a2, c2, l', e', rfl, hs, hwd, hks, hkk, hd⟩
    rcases hd.out with ⟨h, rfl⟩ | ⟨h, _⟩
    · rw [hwk] at h
      cases h
      exact ⟨a2, c2, rfl, hst.next hkk.out hks.out hwd.out⟩
    · rw [hwk] at h; cases h)
  have cGr := fun W => rgreat_any t.text W (by omega)
  rw [hS] at cGr
  clear cW0 hl1 hl2 x1 x2 hst h hw hk hwk hS
  have u0 : (U == [65, 76, 76]) = false := by rw [beq_eq_false_iff_ne]; exact hU _ (by decide)
  have u1 : (U == [83, 69, 69, 78]) = false := by rw [beq_eq_false_iff_ne]; exact hU _ (by decide)
  have u2 : (U == [65, 78, 83, 87, 69, 82, 69, 68]) = false := by rw [beq_eq_false_iff_ne]; exact hU _ (by decide)
  have u3 : (U == [70, 76, 65, 71, 71, 69, 68]) = false := by rw [beq_eq_false_iff_ne]; exact hU _ (by decide)
  have u4 : (U == [68, 69, 76, 69, 84, 69, 68]) = false := by rw [beq_eq_false_iff_ne]; exact hU _ (by decide)
  have u5 : (U == [68, 82, 65, 70, 84]) = false := by rw [beq_eq_false_iff_ne]; exact hU _ (by decide)
  have u6 : (U == [85, 78, 83, 69, 69, 78]) = false := by rw [beq_eq_false_iff_ne]; exact hU _ (by decide)
  have u7 : (U == [85, 78, 65, 78, 83, 87, 69, 82, 69, 68]) = false := by rw [beq_eq_false_iff_ne]; exact hU _ (by decide)
  have u8 : (U == [85, 78, 70, 76, 65, 71, 71, 69, 68]) = false := by rw [beq_eq_false_iff_ne]; exact hU _ (by decide)
  have u9 : (U == [85, 78, 68, 69, 76, 69, 84, 69, 68]) = false := by rw [beq_eq_false_iff_ne]; exact hU _ (by decide)
  have u10 : (U == [85, 78, 68, 82, 65, 70, 84]) = false := by rw [beq_eq_false_iff_ne]; exact hU _ (by decide)
  have u11 : (U == [75, 69, 89, 87, 79, 82, 68]) = false := by rw [beq_eq_false_iff_ne]; exact hU _ (by decide)
  have u12 : (U == [85, 78, 75, 69, 89, 87, 79, 82, 68]) = false := by rw [beq_eq_false_iff_ne]; exact hU _ (by decide)
  have u13 : (U == [70, 82, 79, 77]) = false := by rw [beq_eq_false_iff_ne]; exact hU _ (by decide)
  have u14 : (U == [84, 79]) = false := by rw [beq_eq_false_iff_ne]; exact hU _ (by decide)
  have u15 : (U == [83, 85, 66, 74, 69, 67, 84]) = false := by rw [beq_eq_false_iff_ne]; exact hU _ (by decide)
  have u16 : (U == [67, 67]) = false := by rw [beq_eq_false_iff_ne]; exact hU _ (by decide)
  have u17 : (U == [72, 69, 65, 68, 69, 82]) = false := by rw [beq_eq_false_iff_ne]; exact hU _ (by decide)
  have u18 : (U == [66, 79, 68, 89]) = false := by rw [beq_eq_false_iff_ne]; exact hU _ (by decide)
  have u19 : (U == [84, 69, 88, 84]) = false := by rw [beq_eq_false_iff_ne]; exact hU _ (by decide)
  have u20 : (U == [76, 65, 82, 71, 69, 82]) = false := by rw [beq_eq_false_iff_ne]; exact hU _ (by decide)
  have u21 : (U == [83, 77, 65, 76, 76, 69, 82]) = false := by rw [beq_eq_false_iff_ne]; exact hU _ (by decide)
  have u22 : (U == [66, 69, 70, 79, 82, 69]) = false := by rw [beq_eq_false_iff_ne]; exact hU _ (by decide)
  have u23 : (U == [79, 78]) = false := by rw [beq_eq_false_iff_ne]; exact hU _ (by decide)
  have u24 : (U == [83, 73, 78, 67, 69]) = false := by rw [beq_eq_false_iff_ne]; exact hU _ (by decide)
  have u25 : (U == [85, 73, 68]) = false := by rw [beq_eq_false_iff_ne]; exact hU _ (by decide)
  have u26 : (U == [78, 79, 84]) = false := by rw [beq_eq_false_iff_ne]; exact hU _ (by decide)
  have u27 : (U == [79, 82]) = false := by rw [beq_eq_false_iff_ne]; exact hU _ (by decide)
  have ht' := ht
  clear hU
  cases hp : parseS t.text with
  | error E =>
    have HR := Lib.hid (show setWK t.text l (m + 1) = .error E by unfold setWK; simp only [hp])
    have hpos := Lib.hid (parseS_pos hp)
    go_wp2_with (first
      | (go_at_call 70; (((with_reducible refine cW.mono ?_); rintro e4 w2 ⟨a2, c2, rfl, HS2⟩; obtain ⟨d0, d1⟩ := two_cellsK HS2.out.ks)))
      | (go_at_call 42; (((with_reducible refine (cGr w2).mono ?_); rintro e4 w3 ⟨rfl, hb3⟩; have HS := HS2.out.under hb3; clear d0 d1; obtain ⟨d0, d1⟩ := two_cellsK HS.ks; have cSt := kset_bad HS.ks ht (hG.next HS.kept).at hp)))
      | (go_at_call 73; (((with_reducible refine cSt.mono ?_); rintro e4 w5 ⟨rfl, hks, hkk⟩; have HS5 := HS.next hkk.out hks.out (HS.words.kept hkk.out (fun j hj e => by have : j = K := e; omega)); obtain ⟨r0, r1, r2, r3, r4, r5⟩ := ksix_cells HS5.res; have fz := Lib.frozen_of_heap HS5.res))))
    exact HS5.done (r := setWK t.text l (m + 1)) (e0 := 0) hKl hB (ax := a2) (cx := c2) (lx := l) (k := .mk 12 [] [] 0 [] []) (keyC_leaf _ _ 12 [] [] 0 (by decide) (by decide)) HS5.words (fun _ => by rw [HR.out]; exact ⟨rfl, hpos.out⟩) (fun h => absurd rfl h) rfl rfl rfl
  | ok rg =>
    have HR := Lib.hid (show setWK t.text l (m + 1) = .ok (.mk 12 [] [] 0 rg [], l, m + 1) by unfold setWK; simp only [hp])
    go_wp2_with (first
      | (go_at_call 70; (((with_reducible refine cW.mono ?_); rintro e4 w2 ⟨a2, c2, rfl, HS2⟩; obtain ⟨d0, d1⟩ := two_cellsK HS2.out.ks)))
      | (go_at_call 42; (((with_reducible refine (cGr w2).mono ?_); rintro e4 w3 ⟨rfl, hb3⟩; have HS := HS2.out.under hb3; clear d0 d1; obtain ⟨d0, d1⟩ := two_cellsK HS.ks; have cSt := kset_ok HS.ks ht (hG.next HS.kept).at hp)))
      | (go_at_call 73; (((with_reducible refine cSt.mono ?_); rintro e4 w5 ⟨sa, sc, rfl, hks, hkk, hrg⟩; have HS5 := HS.next hkk.out hks.out (HS.words.kept hkk.out (fun j hj e => by have : j = K := e; omega)); obtain ⟨r0, r1, r2, r3, r4, r5⟩ := ksix_cells HS5.res; have fz := Lib.frozen_of_heap HS5.res))))
    have hlt : w.heap.size < w3.heap.size := (Array.getElem?_eq_some_iff.1 HS.res).1
    exact HS5.done (r := setWK t.text l (m + 1)) (e0 := 0) hKl hB (ax := a2) (cx := c2) (lx := l) (k := .mk 12 [] [] 0 rg []) (keyC_set hrg.out.1 (fun g hg => Nat.lt_of_lt_of_le hlt (hrg.out.2 g hg)) (by decide)) HS5.words (fun _ => by rw [HR.out]; exact ⟨rfl, rfl, rfl, rfl⟩) (fun h => absurd rfl h) rfl rfl rfl
end Go.Proofs.YtcahhnjponeeeaaGreatDoor
namespace Go.Proofs.YtcahhnjponeeeaaGreatDoor
open Go.RowKit Go.Shelf Go.Sort
set_option linter.unusedSimpArgs false
/-- key, called by key one deeper -/
theorem key_call {d D B K m : Nat} {a : Option Addr} {c : Nat} {l : List Wd} {w W : World} (IH : KeySpec d (D + 1)) (HS : KyR w B K ((m : Int) + 1) 0 (.slice a l.length c) l W) (hB : B ≤ K) (hm : m + 1 ≤ 60) (hG : GW K w) :
    Calls Tryz.prog 45 #[.pointer (some ⟨K, 0, none⟩), .slice a l.length c, .int .i64 ((D : Int) + 1)] W fun x w' => ∃ (code : Int) (name text : List UInt8) (kn : Int) (set : List Rg) (keys : List KeyP) (sa ka : Option Addr) (sc kc : Nat) (k : KeyP) (a4 : Option Addr) (c4 : Nat) (l4 : List Wd) (n4 e4 : Int), x = .returned (.tuple #[.agg #[.int .i64 code, .string ⟨name.toArray⟩, .string ⟨text.toArray⟩, .int .i64 kn, .slice sa set.length sc, .slice ka keys.length kc], .slice a4 l4.length c4]) ∧ Hid (KeyC w' (fun j => W.heap.size ≤ j) [.int .i64 code, .string ⟨name.toArray⟩, .string ⟨text.toArray⟩, .int .i64 kn, .slice sa set.length sc, .slice ka keys.length kc] k) ∧ Hid (KyR w B K n4 e4 (.slice a4 l4.length c4) l4 w') ∧
      Hid (match keyK d l (m + 1) with | .ok (k0, l0, n0) => k = k0 ∧ l4 = l0 ∧ n4 = (n0 : Int) ∧ e4 = 0 | .error E => e4 = (E : Int) ∧ 0 < E) :=
  (IH B K ((m : Int) + 1) 0 (m + 1) a c l W HS.ks HS.words hB (fun _ => ⟨rfl, hm⟩) (hG.next HS.kept)).mono (by
    rintro x w' ⟨cs, k, a4, c4, l4, n4, e4, rfl, hkc, hwd, hks, hkk, hr, _⟩
    obtain ⟨code, name, text, kn, set, keys, sa, ka, sc, kc, rfl⟩ := hkc.out.six
    exact ⟨code, name, text, kn, set, keys, sa, ka, sc, kc, k, a4, c4, l4, n4, e4, rfl, hkc, HS.next hkk.out hks.out hwd.out, hr.out rfl⟩)
def notR (r : KeyE) : KeyE := match r with
  | .error e => .error e
  | .ok (k, l', n') => .ok (notK k, l', n')
theorem not_rel {r : KeyE} {k : KeyP} {l4 : List Wd} {n4 e4 : Int} (h : match r with | .ok (k0, l0, n0) => k = k0 ∧ l4 = l0 ∧ n4 = (n0 : Int) ∧ e4 = 0 | .error E => e4 = (E : Int) ∧ 0 < E) : match notR r with | .ok (k0, l0, n0) => notK k = k0 ∧ l4 = l0 ∧ n4 = (n0 : Int) ∧ e4 = 0 | .error E => e4 = (E : Int) ∧ 0 < E := by
  cases r with
  | error E => exact h
  | ok y => obtain ⟨k0, l0, n0⟩ := y; exact ⟨by rw [h.1], h.2⟩
set_option linter.constructorNameAsVariable false in
set_option maxRecDepth 100000 in
set_option maxHeartbeats 16000000 in
theorem rkey_NOT (D B K m : Nat) (hD : D ≤ 7) (hm : m ≤ 60) (a : Option Addr) (c : Nat) (t : Wd) (l : List Wd) (w : World) (h : KsC w K (m : Int) 0) (hw : WordsL w (fun j => j < B) (.slice a (t :: l).length c) (t :: l)) (hB : B ≤ K) (h60 : m + 1 ≤ 60) (h6 : D ≤ 6) (hk : t.kind ≠ 3) (d : Nat) (IH : KeySpec d (D + 1)) (hG : GW K w) (hS : greatL t.text = [78, 79, 84]) :
    Calls Tryz.prog 45 #[.pointer (some ⟨K, 0, none⟩), .slice a (t :: l).length c, .int .i64 (D : Int)] w (RKS B K (notR (keyK d l (m + 1))) 0 w) := by
  have hKl : K < w.heap.size := (Array.getElem?_eq_some_iff.1 h).1
  have hst := kyR_start h hw hB ((m : Int) + 1)
  obtain ⟨c0, c1⟩ := two_cellsK (below_same ((Below.refl _ w).alloc (Nat.le_refl _) (.cells zero6 32)) h)
  have fz := Lib.frozen_of_heap (below_same ((Below.refl _ w).alloc (Nat.le_refl _) (.cells zero6 32)) h)
  go_enter Tryz.func45, Tryz.ntmps45
  go_upto_region 2 with fail
  obtain ⟨w1, hw1⟩ : ∃ w1, (w.setCell ⟨K, 0, none⟩ (.int .i64 ((m : Int) + 1))).alloc (.cells #[.int .i64 0, .string ⟨#[]⟩, .string ⟨#[]⟩, .int .i64 0, .slice none 0 0, .slice none 0 0] 32) = w1 := ⟨_, rfl⟩
  rw [hw1]
  have hst : KyR w B K ((m : Int) + 1) 0 (.slice a (t :: l).length c) (t :: l) w1 := hw1 ▸ hst
  clear hw1 c0 c1 fz
  obtain ⟨c0, c1⟩ := two_cellsK hst.ks
  have cW0 := kword_any K B ((m : Int) + 1) 0 a c (t :: l) w1 hst.ks hst.words hB
  obtain ⟨g, off, va, vc, rfl, -, hc1, hc2, hg, x0, x1, x2, ht, hl1, hl2⟩ := hst.words.cons
  have h1 : ¬ (60 : Int) < (m : Int) + 1 := by omega
  have h2 : ¬ (6 : Int) < (D : Int) := by omega
  have hkd : decide (t.kind = 3) = false := decide_eq_false hk
  have hkb : (t.kind == 3) = false := by rw [beq_eq_false_iff_ne]; exact hk
  have hwk : wordK (t :: l) = .ok (t.text, l) := by rw [wordK, if_neg hk]
  have cW : Calls Tryz.prog 70 #[.pointer (some ⟨K, 0, none⟩), .slice (some ⟨g, off, none⟩) (l.length + 1) c] w1 fun x w' => ∃ (a2 : Option Addr) (c2 : Nat), x = .returned (.tuple #[.string ⟨t.text.toArray⟩, .slice a2 l.length c2]) ∧ Hid (KyR w B K ((m : Int) + 1) 0 (.slice a2 l.length c2) l w') := cW0.mono (by
    rintro x w' ⟨s, a2, c2, l', e', rfl, hs, hwd, hks, hkk, hd⟩
    rcases hd.out with ⟨h, rfl⟩ | ⟨h, _⟩
    · rw [hwk] at h
      cases h
      exact ⟨a2, c2, rfl, hst.next hkk.out hks.out hwd.out⟩
    · rw [hwk] at h; cases h)
  have cGr := fun W => rgreat_any t.text W (by omega)
  rw [hS] at cGr
  clear cW0 hl1 hl2 x1 x2 hst h hw hk hwk hS
  have hD1 : IntKind.i64.wrap ((D : Int) + 1) = (D : Int) + 1 := IntWalk.i64_in _ (by omega)
  go_wp2_with (first
    | (go_at_call 70; (((with_reducible refine cW.mono ?_); rintro e4 w2 ⟨a2, c2, rfl, HS2⟩; obtain ⟨d0, d1⟩ := two_cellsK HS2.out.ks)))
    | (go_at_call 42; (((with_reducible refine (cGr w2).mono ?_); rintro e4 w3 ⟨rfl, hb3⟩; have HS := HS2.out.under hb3; clear d0 d1; obtain ⟨d0, d1⟩ := two_cellsK HS.ks; have cK := key_call IH HS hB h60 hG)))
    | (go_at_call 45; (((with_reducible refine cK.mono ?_); rintro e4 w4 ⟨code, name, text, kn, set, keys, sa, ka, sc, kc, k, a4, c4, l4, n4, e5, rfl, hkc, HS4, hr⟩; obtain ⟨w5, hw5⟩ : ∃ W, w4.alloc (.cells #[.int .i64 code, .string ⟨name.toArray⟩, .string ⟨text.toArray⟩, .int .i64 kn, .slice sa set.length sc, .slice ka keys.length kc] 32) = W := ⟨_, rfl⟩; have y5 : Below w4.heap.size w4 w5 := hw5 ▸ (Below.refl _ _).alloc (Nat.le_refl _) _; have x5 : w5.heap[w4.heap.size]? = some (.cells #[.int .i64 code, .string ⟨name.toArray⟩, .string ⟨text.toArray⟩, .int .i64 kn, .slice sa set.length sc, .slice ka keys.length kc] 32 (0, 0)) := hw5 ▸ World.heap_alloc_new w4 _; obtain ⟨q0, q1, q2, q3, q4, q5⟩ := ksix_cells x5; have HS5 := HS4.out.under y5; have cNo := knots_any (.int .i64 code) (.string ⟨name.toArray⟩) (.string ⟨text.toArray⟩) (.int .i64 kn) (.slice sa set.length sc) (.slice ka keys.length kc) w5)))
    | (go_at_call 72; (((with_reducible refine cNo.mono ?_); rintro e4 w6 ⟨rfl, hb6, hx6⟩; have HS6 := HS5.under hb6; obtain ⟨r0, r1, r2, r3, r4, r5⟩ := ksix_cells HS6.res; have fz := Lib.frozen_of_heap HS6.res))))
  have hlt3 : w.heap.size < w3.heap.size := (Array.getElem?_eq_some_iff.1 HS.res).1
  have hlt4 : w.heap.size < w5.heap.size := (Array.getElem?_eq_some_iff.1 HS5.res).1
  have yall : Below w4.heap.size w4 w6 := y5.trans (hb6.mono y5.size)
  have hkc6 : KeyC w6 (fun j => w.heap.size < j) [.int .i64 code, .string ⟨name.toArray⟩, .string ⟨text.toArray⟩, .int .i64 kn, .slice sa set.length sc, .slice ka keys.length kc] k := hkc.out.keep yall.size (fun j _ hl => yall.block j hl) (fun j hj _ => Nat.lt_of_lt_of_le hlt3 hj)
  exact HS6.done (r := notR (keyK d l (m + 1))) (e0 := 0) hKl hB (ax := a4) (cx := c4) (lx := l4) (k := notK k) (keyC_one hx6 (by omega) hkc6) HS6.words (fun _ => not_rel hr.out) (fun h => absurd rfl h) rfl rfl rfl
end Go.Proofs.YtcahhnjponeeeaaGreatDoor
namespace Go.Proofs.YtcahhnjponeeeaaGreatDoor
open Go.RowKit Go.Shelf Go.Sort
set_option linter.unusedSimpArgs false
/-- key, called by key one deeper, behind another key -/
theorem key_call2 {d D B K m : Nat} {a : Option Addr} {c : Nat} {l : List Wd} {n e : Int} {w W : World} (IH : KeySpec d (D + 1)) (HS : KyR w B K n e (.slice a l.length c) l W) (hB : B ≤ K) (hm : e = 0 → n = (m : Int) ∧ m ≤ 60) (hG : GW K w) :
    Calls Tryz.prog 45 #[.pointer (some ⟨K, 0, none⟩), .slice a l.length c, .int .i64 ((D : Int) + 1)] W fun x w' => ∃ (code : Int) (name text : List UInt8) (kn : Int) (set : List Rg) (keys : List KeyP) (sa ka : Option Addr) (sc kc : Nat) (k : KeyP) (a4 : Option Addr) (c4 : Nat) (l4 : List Wd) (n4 e4 : Int), x = .returned (.tuple #[.agg #[.int .i64 code, .string ⟨name.toArray⟩, .string ⟨text.toArray⟩, .int .i64 kn, .slice sa set.length sc, .slice ka keys.length kc], .slice a4 l4.length c4]) ∧ Hid (KeyC w' (fun j => W.heap.size ≤ j) [.int .i64 code, .string ⟨name.toArray⟩, .string ⟨text.toArray⟩, .int .i64 kn, .slice sa set.length sc, .slice ka keys.length kc] k) ∧ Hid (KyR w B K n4 e4 (.slice a4 l4.length c4) l4 w') ∧ Hid (Kept (fun j => j = K) W w') ∧
      Hid (e = 0 → match keyK d l m with | .ok (k0, l0, n0) => k = k0 ∧ l4 = l0 ∧ n4 = (n0 : Int) ∧ e4 = 0 | .error E => e4 = (E : Int) ∧ 0 < E) ∧ Hid (e ≠ 0 → e4 = e) :=
  (IH B K n e m a c l W HS.ks HS.words hB hm (hG.next HS.kept)).mono (by
    rintro x w' ⟨cs, k, a4, c4, l4, n4, e4, rfl, hkc, hwd, hks, hkk, hr, hr2⟩
    obtain ⟨code, name, text, kn, set, keys, sa, ka, sc, kc, rfl⟩ := hkc.out.six
    exact ⟨code, name, text, kn, set, keys, sa, ka, sc, kc, k, a4, c4, l4, n4, e4, rfl, hkc, HS.next hkk.out hks.out hwd.out, hkk, hr, hr2⟩)
def orR (d : Nat) (r : KeyE) : KeyE := match r with
  | .error e => .error e
  | .ok (x, l1, n1) => (match keyK d l1 n1 with | .error e => .error e | .ok (y, l2, n2) => .ok (.mk 14 [] [] 0 [] [x, y], l2, n2))
theorem orR_bad {d : Nat} {k : KeyP} {l : List Wd} {n E : Nat} (h : keyK d l n = .error E) : orR d (.ok (k, l, n)) = .error E := by
  unfold orR; dsimp only; rw [h]
theorem orR_good {d : Nat} {k y : KeyP} {l l2 : List Wd} {n n2 : Nat} (h : keyK d l n = .ok (y, l2, n2)) : orR d (.ok (k, l, n)) = .ok (.mk 14 [] [] 0 [] [k, y], l2, n2) := by
  unfold orR; dsimp only; rw [h]
theorem or_rel {d : Nat} {r : KeyE} {k k2 : KeyP} {l4 l5 : List Wd} {n4 e4 n5 e5 : Int} (h : match r with | .ok (k0, l0, n0) => k = k0 ∧ l4 = l0 ∧ n4 = (n0 : Int) ∧ e4 = 0 | .error E => e4 = (E : Int) ∧ 0 < E)
    (h2 : e4 = 0 → match keyK d l4 n4.toNat with | .ok (k0, l0, n0) => k2 = k0 ∧ l5 = l0 ∧ n5 = (n0 : Int) ∧ e5 = 0 | .error E => e5 = (E : Int) ∧ 0 < E) (h3 : e4 ≠ 0 → e5 = e4) :
    match orR d r with | .ok (k0, l0, n0) => KeyP.mk 14 [] [] 0 [] [k, k2] = k0 ∧ l5 = l0 ∧ n5 = (n0 : Int) ∧ e5 = 0 | .error E => e5 = (E : Int) ∧ 0 < E := by
  cases r with
  | error E => exact ⟨(h3 (by have := h.1; have := h.2; omega)).trans h.1, h.2⟩
  | ok y =>
    obtain ⟨k0, l0, n0⟩ := y
    obtain ⟨rfl, rfl, rfl, rfl⟩ := h
    have h2 := h2 rfl
    rw [Int.toNat_natCast] at h2
    cases hk : keyK d l4 n0 with
    | error E => rw [orR_bad hk]; rw [hk] at h2; exact h2
    | ok z => obtain ⟨y0, y1, y2⟩ := z; rw [orR_good hk]; rw [hk] at h2; exact ⟨by rw [h2.1], h2.2⟩
theorem or_le {d m : Nat} {l l4 : List Wd} {k : KeyP} {n4 e4 : Int} (hs : StepK (keyK d)) (h : match keyK d l m with | .ok (k0, l0, n0) => k = k0 ∧ l4 = l0 ∧ n4 = (n0 : Int) ∧ e4 = 0 | .error E => e4 = (E : Int) ∧ 0 < E) : e4 = 0 → n4 = ((n4.toNat : Nat) : Int) ∧ n4.toNat ≤ 60 := by
  intro he
  cases hk : keyK d l m with
  | error E => rw [hk] at h; have h1 : e4 = (E : Int) := h.1; have h2 : 0 < E := h.2; omega
  | ok y => obtain ⟨k0, l0, n0⟩ := y; rw [hk] at h; have h1 : n4 = (n0 : Int) := h.2.2.1; have := (hs _ _ _ _ _ hk).2.2; omega
set_option linter.constructorNameAsVariable false in
set_option maxRecDepth 100000 in
set_option maxHeartbeats 16000000 in
theorem rkey_OR (D B K m : Nat) (hD : D ≤ 7) (hm : m ≤ 60) (a : Option Addr) (c : Nat) (t : Wd) (l : List Wd) (w : World) (h : KsC w K (m : Int) 0) (hw : WordsL w (fun j => j < B) (.slice a (t :: l).length c) (t :: l)) (hB : B ≤ K) (h60 : m + 1 ≤ 60) (h6 : D ≤ 6) (hk : t.kind ≠ 3) (d : Nat) (IH : KeySpec d (D + 1)) (hst60 : StepK (keyK d)) (hG : GW K w) (hS : greatL t.text = [79, 82]) :
    Calls Tryz.prog 45 #[.pointer (some ⟨K, 0, none⟩), .slice a (t :: l).length c, .int .i64 (D : Int)] w (RKS B K (orR d (keyK d l (m + 1))) 0 w) := by
  have hKl : K < w.heap.size := (Array.getElem?_eq_some_iff.1 h).1
  have hst := kyR_start h hw hB ((m : Int) + 1)
  obtain ⟨c0, c1⟩ := two_cellsK (below_same ((Below.refl _ w).alloc (Nat.le_refl _) (.cells zero6 32)) h)
  have fz := Lib.frozen_of_heap (below_same ((Below.refl _ w).alloc (Nat.le_refl _) (.cells zero6 32)) h)
  go_enter Tryz.func45, Tryz.ntmps45
  go_upto_region 2 with fail
  obtain ⟨w1, hw1⟩ : ∃ w1, (w.setCell ⟨K, 0, none⟩ (.int .i64 ((m : Int) + 1))).alloc (.cells #[.int .i64 0, .string ⟨#[]⟩, .string ⟨#[]⟩, .int .i64 0, .slice none 0 0, .slice none 0 0] 32) = w1 := ⟨_, rfl⟩
  rw [hw1]
  have hst : KyR w B K ((m : Int) + 1) 0 (.slice a (t :: l).length c) (t :: l) w1 := hw1 ▸ hst
  clear hw1 c0 c1 fz
  obtain ⟨c0, c1⟩ := two_cellsK hst.ks
  have cW0 := kword_any K B ((m : Int) + 1) 0 a c (t :: l) w1 hst.ks hst.words hB
  obtain ⟨g, off, va, vc, rfl, -, hc1, hc2, hg, x0, x1, x2, ht, hl1, hl2⟩ := hst.words.cons
  have h1 : ¬ (60 : Int) < (m : Int) + 1 := by omega
  have h2 : ¬ (6 : Int) < (D : Int) := by omega
  have hkd : decide (t.kind = 3) = false := decide_eq_false hk
  have hkb : (t.kind == 3) = false := by rw [beq_eq_false_iff_ne]; exact hk
  have hwk : wordK (t :: l) = .ok (t.text, l) := by rw [wordK, if_neg hk]
  have cW : Calls Tryz.prog 70 #[.pointer (some ⟨K, 0, none⟩), .slice (some ⟨g, off, none⟩) (l.length + 1) c] w1 fun x w' => ∃ (a2 : Option Addr) (c2 : Nat), x = .returned (.tuple #[.string ⟨t.text.toArray⟩, .slice a2 l.length c2]) ∧ Hid (KyR w B K ((m : Int) + 1) 0 (.slice a2 l.length c2) l w') := cW0.mono (by
    rintro x w' ⟨s, a2, c2, l', e', rfl, hs, hwd, hks, hkk, hd⟩
    rcases hd.out with ⟨h, rfl⟩ | ⟨h, _⟩
    · rw [hwk] at h
      cases h
      exact ⟨a2, c2, rfl, hst.next hkk.out hks.out hwd.out⟩
    · rw [hwk] at h; cases h)
  have cGr := fun W => rgreat_any t.text W (by omega)
  rw [hS] at cGr
  clear cW0 hl1 hl2 x1 x2 hst h hw hk hwk hS
  have hD1 : IntKind.i64.wrap ((D : Int) + 1) = (D : Int) + 1 := IntWalk.i64_in _ (by omega)
  go_upto_region 70 with (first
    | (go_at_call 70; (((with_reducible refine cW.mono ?_); rintro e4 w2 ⟨a2, c2, rfl, HS2⟩; obtain ⟨d0, d1⟩ := two_cellsK HS2.out.ks)))
    | (go_at_call 42; (((with_reducible refine (cGr w2).mono ?_); rintro e4 w3 ⟨rfl, hb3⟩; have HS := HS2.out.under hb3; clear d0 d1; obtain ⟨d0, d1⟩ := two_cellsK HS.ks; have cK := key_call IH HS hB h60 hG)))
    | (go_at_call 45; (((with_reducible refine cK.mono ?_); clear cK; rintro e4 w4 ⟨code, name, text, kn, set, keys, sa, ka, sc, kc, k, a4, c4, l4, n4, e5, rfl, hkc, HS4, hr⟩; have hm4 : e5 = 0 → n4 = ((n4.toNat : Nat) : Int) ∧ n4.toNat ≤ 60 := or_le hst60 hr.out; obtain ⟨w5, hw5⟩ : ∃ W, w4.alloc (.cells #[.int .i64 code, .string ⟨name.toArray⟩, .string ⟨text.toArray⟩, .int .i64 kn, .slice sa set.length sc, .slice ka keys.length kc] 32) = W := ⟨_, rfl⟩; have y5 : Below w4.heap.size w4 w5 := hw5 ▸ (Below.refl _ _).alloc (Nat.le_refl _) _; have x5 : w5.heap[w4.heap.size]? = some (.cells #[.int .i64 code, .string ⟨name.toArray⟩, .string ⟨text.toArray⟩, .int .i64 kn, .slice sa set.length sc, .slice ka keys.length kc] 32 (0, 0)) := hw5 ▸ World.heap_alloc_new w4 _; have HS5 := HS4.out.under y5; have hlt5 : w.heap.size < w5.heap.size := (Array.getElem?_eq_some_iff.1 HS5.res).1; have cK2 := key_call2 IH HS5 hB hm4 hG; subst hw5)))
    | (go_at_call 45; (go_loud ((with_reducible refine cK2.mono ?_); clear cK2; rintro e4 w6 ⟨code2, name2, text2, kn2, set2, keys2, sa2, ka2, sc2, kc2, k2, a5, c5, l5, n5, e6, rfl, hkc2, HS6, hk56, hr2, hr3⟩; have hKx : w4.heap.size ≠ K := ks_ne HS5.ks x5 (by decide); obtain ⟨w7, hw7⟩ : ∃ W, w6.alloc (.cells #[.int .i64 code2, .string ⟨name2.toArray⟩, .string ⟨text2.toArray⟩, .int .i64 kn2, .slice sa2 set2.length sc2, .slice ka2 keys2.length kc2] 32) = W := ⟨_, rfl⟩; have y7 : Below w6.heap.size w6 w7 := hw7 ▸ (Below.refl _ _).alloc (Nat.le_refl _) _; have x7 : w7.heap[w6.heap.size]? = some (.cells #[.int .i64 code2, .string ⟨name2.toArray⟩, .string ⟨text2.toArray⟩, .int .i64 kn2, .slice sa2 set2.length sc2, .slice ka2 keys2.length kc2] 32 (0, 0)) := hw7 ▸ World.heap_alloc_new w6 _; have x7' := below_same y7 (hk56.out.obj x5 hKx); have HS7 := HS6.out.under y7; obtain ⟨q0, q1, q2, q3, q4, q5⟩ := ksix_cells x7; obtain ⟨p0, p1, p2, p3, p4, p5⟩ := ksix_cells x7'; obtain ⟨w8, hw8⟩ : ∃ W, w7.alloc (.cells #[.int .i64 code, .string ⟨name.toArray⟩, .string ⟨text.toArray⟩, .int .i64 kn, .slice sa set.length sc, .slice ka keys.length kc, .int .i64 code2, .string ⟨name2.toArray⟩, .string ⟨text2.toArray⟩, .int .i64 kn2, .slice sa2 set2.length sc2, .slice ka2 keys2.length kc2] 32) = W := ⟨_, rfl⟩; have hs7 : w7.heap.size = w6.heap.size + 1 := hw7 ▸ Array.size_push ..; have y8 : Below w7.heap.size w7 w8 := hw8 ▸ (Below.refl _ _).alloc (Nat.le_refl _) _; have x8 : w8.heap[w7.heap.size]? = some (.cells #[.int .i64 code, .string ⟨name.toArray⟩, .string ⟨text.toArray⟩, .int .i64 kn, .slice sa set.length sc, .slice ka keys.length kc, .int .i64 code2, .string ⟨name2.toArray⟩, .string ⟨text2.toArray⟩, .int .i64 kn2, .slice sa2 set2.length sc2, .slice ka2 keys2.length kc2] 32 (0, 0)) := hw8 ▸ World.heap_alloc_new w7 _; have HS8 := HS7.under y8; obtain ⟨r0, r1, r2, r3, r4, r5⟩ := ksix_cells HS8.res; have fz := Lib.frozen_of_heap HS8.res; have hlt3 : w.heap.size < w3.heap.size := (Array.getElem?_eq_some_iff.1 HS.res).1; have hlt6 : w.heap.size < w6.heap.size := (Array.getElem?_eq_some_iff.1 HS6.out.res).1; have hKl3 : K < w3.heap.size := (Array.getElem?_eq_some_iff.1 HS.ks).1; have hcA : KeyC w8 (fun j => w.heap.size < j) [.int .i64 code, .string ⟨name.toArray⟩, .string ⟨text.toArray⟩, .int .i64 kn, .slice sa set.length sc, .slice ka keys.length kc] k := ((((hkc.out.keep (ok' := fun j => w3.heap.size ≤ j) y5.size (fun j _ hl => y5.block j hl) (fun j hj _ => hj)).keep (ok' := fun j => w3.heap.size ≤ j) hk56.out.size (fun j hj hl => hk56.out.block j hl (fun e => by have : j = K := e; omega)) (fun j hj _ => hj)).keep (ok' := fun j => w3.heap.size ≤ j) y7.size (fun j _ hl => y7.block j hl) (fun j hj _ => hj)).keep (ok' := fun j => w.heap.size < j) y8.size (fun j _ hl => y8.block j hl) (fun j hj _ => Nat.lt_of_lt_of_le hlt3 hj)); have hcB : KeyC w8 (fun j => w.heap.size < j) [.int .i64 code2, .string ⟨name2.toArray⟩, .string ⟨text2.toArray⟩, .int .i64 kn2, .slice sa2 set2.length sc2, .slice ka2 keys2.length kc2] k2 := (hkc2.out.keep (ok' := fun j => w.heap.size < j) y7.size (fun j _ hl => y7.block j hl) (fun j hj _ => Nat.lt_of_lt_of_le hlt5 hj)).keep (ok' := fun j => w.heap.size < j) y8.size (fun j _ hl => y8.block j hl) (fun j hj _ => hj); have HW7 := Lib.hid hw7; have hs7 := Lib.hid hs7; clear y5 y7 y8 x7 x7' x5 HS7 hw7; subst hw8))))
  rw [HW7.out]
  have HREL := Lib.hid (or_rel (d := d) (r := keyK d l (m + 1)) (k := k) (k2 := k2) (l4 := l4) (l5 := l5) (n4 := n4) (e4 := e5) (n5 := n5) (e5 := e6) hr.out hr2.out hr3.out)
  clear hr hr2 hr3
  have X8 := Lib.hid x8
  have HA := Lib.hid hcA
  have HB := Lib.hid hcB
  have H8 := Lib.hid HS8
  have hlt68 := Lib.hid (show w.heap.size < w7.heap.size by have := hs7.out; omega)
  clear x8 hcA hcB HS8 HS5 hm4 HS HS2 d0 d1 c0 c1 h1 h2 hD1 hlt3 hlt5 hlt6 hKl3 hKx x0 hc1 hc2 hg hkd hkb cW cGr hb3
  go_wp2_with fail
  have T2 := keyC_two (code := 14) X8.out hlt68.out (by decide) HA.out HB.out
  rw [hs7.out] at T2
  refine H8.out.done (r := orR d (keyK d l (m + 1))) (e0 := 0) hKl hB (ax := a5) (cx := c5) (lx := l5) (k := .mk 14 [] [] 0 [] [k, k2]) ?_ ?_ ?_ ?_ rfl rfl rfl
  · exact T2
  · exact H8.out.words
  · exact fun _ => HREL.out
  · exact fun h => absurd rfl h
end Go.Proofs.YtcahhnjponeeeaaGreatDoor
namespace Go.Proofs.YtcahhnjponeeeaaGreatDoor
open Go.RowKit Go.Shelf Go.Sort
set_option linter.unusedSimpArgs false
/-- six cells written besides -/
theorem KyR.side {w wr : World} {B K : Nat} {n e : Int} {v : Value} {l : List Wd} (h : KyR w B K n e v l wr) (hK : K < w.heap.size) (hB : B ≤ K) {X : Nat} (hX : w.heap.size < X) (x0 x1 x2 x3 x4 x5 : Value) : KyR w B K n e v l ((((((wr.setCell ⟨X, 0, none⟩ x0).setCell ⟨X, 1, none⟩ x1).setCell ⟨X, 2, none⟩ x2).setCell ⟨X, 3, none⟩ x3).setCell ⟨X, 4, none⟩ x4).setCell ⟨X, 5, none⟩ x5) :=
  ⟨(ksix_heap _ _ _ _ _ _ _ _ (by omega)).trans h.ks, h.words.keep (by rw [ksix_size]; exact Nat.le_refl _) (fun j hj _ => ksix_heap _ _ _ _ _ _ _ _ (by omega)) (fun _ hj _ => hj), (ksix_heap _ _ _ _ _ _ _ _ (by omega)).trans h.res, ksix_kept h.kept (by omega) _ _ _ _ _ _⟩
set_option linter.constructorNameAsVariable false in
set_option maxRecDepth 100000 in
set_option maxHeartbeats 16000000 in
theorem rkey_UNKEYWORD (D B K m : Nat) (hD : D ≤ 7) (hm : m ≤ 60) (a : Option Addr) (c : Nat) (t : Wd) (l : List Wd) (w : World) (h : KsC w K (m : Int) 0) (hw : WordsL w (fun j => j < B) (.slice a (t :: l).length c) (t :: l)) (hB : B ≤ K) (h60 : m + 1 ≤ 60) (h6 : D ≤ 6) (hk : t.kind ≠ 3) (hS : greatL t.text = [85, 78, 75, 69, 89, 87, 79, 82, 68]) :
    Calls Tryz.prog 45 #[.pointer (some ⟨K, 0, none⟩), .slice a (t :: l).length c, .int .i64 (D : Int)] w (RKS B K (kwK true l (m + 1)) 0 w) := by
  have hKl : K < w.heap.size := (Array.getElem?_eq_some_iff.1 h).1
  have hst := kyR_start h hw hB ((m : Int) + 1)
  obtain ⟨c0, c1⟩ := two_cellsK (below_same ((Below.refl _ w).alloc (Nat.le_refl _) (.cells zero6 32)) h)
  have fz := Lib.frozen_of_heap (below_same ((Below.refl _ w).alloc (Nat.le_refl _) (.cells zero6 32)) h)
  go_enter Tryz.func45, Tryz.ntmps45
  go_upto_region 2 with fail
  obtain ⟨w1, hw1⟩ : ∃ w1, (w.setCell ⟨K, 0, none⟩ (.int .i64 ((m : Int) + 1))).alloc (.cells #[.int .i64 0, .string ⟨#[]⟩, .string ⟨#[]⟩, .int .i64 0, .slice none 0 0, .slice none 0 0] 32) = w1 := ⟨_, rfl⟩
  rw [hw1]
  have hst : KyR w B K ((m : Int) + 1) 0 (.slice a (t :: l).length c) (t :: l) w1 := hw1 ▸ hst
  clear hw1 c0 c1 fz
  obtain ⟨c0, c1⟩ := two_cellsK hst.ks
  have cW0 := kword_any K B ((m : Int) + 1) 0 a c (t :: l) w1 hst.ks hst.words hB
  obtain ⟨g, off, va, vc, rfl, -, hc1, hc2, hg, x0, x1, x2, ht, hl1, hl2⟩ := hst.words.cons
  have h1 : ¬ (60 : Int) < (m : Int) + 1 := by omega
  have h2 : ¬ (6 : Int) < (D : Int) := by omega
  have hkd : decide (t.kind = 3) = false := decide_eq_false hk
  have hkb : (t.kind == 3) = false := by rw [beq_eq_false_iff_ne]; exact hk
  have hwk : wordK (t :: l) = .ok (t.text, l) := by rw [wordK, if_neg hk]
  have cW : Calls Tryz.prog 70 #[.pointer (some ⟨K, 0, none⟩), .slice (some ⟨g, off, none⟩) (l.length + 1) c] w1 fun x w' => ∃ (a2 : Option Addr) (c2 : Nat), x = .returned (.tuple #[.string ⟨t.text.toArray⟩, .slice a2 l.length c2]) ∧ Hid (KyR w B K ((m : Int) + 1) 0 (.slice a2 l.length c2) l w') := cW0.mono (by
    rintro x w' ⟨s, a2, c2, l', e', rfl, hs, hwd, hks, hkk, hd⟩
    rcases hd.out with ⟨h, rfl⟩ | ⟨h, _⟩
    · rw [hwk] at h
      cases h
      exact ⟨a2, c2, rfl, hst.next hkk.out hks.out hwd.out⟩
    · rw [hwk] at h; cases h)
  have cGr := fun W => rgreat_any t.text W (by omega)
  rw [hS] at cGr
  clear cW0 hl1 hl2 x1 x2 hst h hw hk hwk hS
  go_upto_region 32 with (first
    | (go_at_call 70; (((with_reducible refine cW.mono ?_); rintro e4 w2 ⟨a2, c2, rfl, HS2⟩; obtain ⟨d0, d1⟩ := two_cellsK HS2.out.ks)))
    | (go_at_call 42; (((with_reducible refine (cGr w2).mono ?_); rintro e4 w3 ⟨rfl, hb3⟩; have HS := HS2.out.under hb3; clear d0 d1; obtain ⟨d0, d1⟩ := two_cellsK HS.ks; have cW3 := kword_any K B ((m : Int) + 1) 0 a2 c2 l w3 HS.ks HS.words hB)))
    | (go_at_call 70; (((with_reducible refine cW3.mono ?_); rintro e4 w4 ⟨s, a4, c4, l4, e', rfl, hs4, hwd, hks, hkk, hd⟩; have HS4 := HS.next hkk.out hks.out hwd.out; have cFl := kflag_any K ((m : Int) + 1) e' s w4 HS4.ks (by omega))))
    | (go_at_call 71; (((with_reducible refine cFl.mono ?_); rintro e4 w5 ⟨nm, e5, rfl, hks5, hkk5, hd5⟩; have HS5 := HS4.next hkk5.out hks5.out (HS4.words.kept hkk5.out (fun j hj e => by have : j = K := e; omega))))))
  obtain ⟨w6, hw6⟩ : ∃ W, w5.alloc (.cells #[.int .i64 2, .string ⟨nm.toArray⟩, .string ⟨#[]⟩, .int .i64 0, .slice none 0 0, .slice none 0 0] 32) = W := ⟨_, rfl⟩
  have y6 : Below w5.heap.size w5 w6 := hw6 ▸ (Below.refl _ _).alloc (Nat.le_refl _) _
  have x6 : w6.heap[w5.heap.size]? = some (.cells #[.int .i64 2, .string ⟨nm.toArray⟩, .string ⟨#[]⟩, .int .i64 0, .slice none 0 0, .slice none 0 0] 32 (0, 0)) := hw6 ▸ World.heap_alloc_new w5 _
  have HS6 := HS5.under y6
  have hlt5 : w.heap.size < w5.heap.size := (Array.getElem?_eq_some_iff.1 HS5.res).1
  have hlt6 : w5.heap.size < w6.heap.size := (Array.getElem?_eq_some_iff.1 x6).1
  have hKr : K < w.heap.size := hKl
  rw [hw6]
  obtain ⟨X, hX⟩ : ∃ X, w5.heap.size = X := ⟨_, rfl⟩
  rw [hX] at x6 hlt5 hlt6 ⊢
  have cNo := knots_any (.int .i64 2) (.string ⟨nm.toArray⟩) (.string ⟨#[]⟩) (.int .i64 0) (.slice none 0 0) (.slice none 0 0) w6
  obtain ⟨q0, q1, q2, q3, q4, q5⟩ := ksix_cells x6
  clear hw6 hX y6 d0 d1 HS HS4
  go_upto_region 34 with (go_at_call 72; (((with_reducible refine cNo.mono ?_); rintro e4 w7 ⟨rfl, hb7, hx7⟩; have HS7 := HS6.under hb7; have x7 := below_same hb7 x6; clear q0 q1 q2 q3 q4 q5; obtain ⟨q0, q1, q2, q3, q4, q5⟩ := ksix_cells x7; have fz7 := Lib.frozen_of_heap x7)))
  have HS8 := HS7.side hKl hB hlt5 (.int .i64 13) (.string ⟨#[]⟩) (.string ⟨#[]⟩) (.int .i64 0) (.slice none 0 0) (.slice (some ⟨w6.heap.size + 2, 0, none⟩) 1 1)
  have x8 := kset_six x7 (.int .i64 13) (.string ⟨#[]⟩) (.string ⟨#[]⟩) (.int .i64 0) (.slice none 0 0) (.slice (some ⟨w6.heap.size + 2, 0, none⟩) 1 1)
  have hx8 := (ksix_heap w7 (U := X) (.int .i64 13) (.string ⟨#[]⟩) (.string ⟨#[]⟩) (.int .i64 0) (.slice none 0 0) (.slice (some ⟨w6.heap.size + 2, 0, none⟩) 1 1) (w6.heap.size + 2) (by omega)).trans hx7
  generalize ((((((w7.setCell ⟨X, 0, none⟩ (.int .i64 13)).setCell ⟨X, 1, none⟩ (.string ⟨#[]⟩)).setCell ⟨X, 2, none⟩ (.string ⟨#[]⟩)).setCell ⟨X, 3, none⟩ (.int .i64 0)).setCell ⟨X, 4, none⟩ (.slice none 0 0)).setCell ⟨X, 5, none⟩ (.slice (some ⟨w6.heap.size + 2, 0, none⟩) 1 1)) = w8 at HS8 x8 hx8 ⊢
  clear q0 q1 q2 q3 q4 q5 fz7
  obtain ⟨q0, q1, q2, q3, q4, q5⟩ := ksix_cells x8
  obtain ⟨r0, r1, r2, r3, r4, r5⟩ := ksix_cells HS8.res
  have fz := Lib.frozen_of_heap HS8.res
  clear HS7 HS6 HS5 HS2 x7 x8
  go_wp2_with fail
  exact HS8.done (r := kwK true l (m + 1)) (e0 := 0) hKl hB (k := notK (.mk 2 nm [] 0 [] [])) (ax := a4) (cx := c4) (lx := l4) (keyC_one hx8 (by omega) (keyC_leaf _ _ 2 nm [] 0 (by decide) (by decide))) HS8.words (fun _ => kw_rel (un := true) hd.out hd5.out) (fun h => absurd rfl h) rfl rfl rfl
end Go.Proofs.YtcahhnjponeeeaaGreatDoor
