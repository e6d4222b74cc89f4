/- The walks over the small parts of the reference's reader of keys: fails, word, set, flag, nots. Conditions: strconv's table of powers and its two errors, bytealg.MaxLen lie as the program's text lays them. The walks over the reference's flag and nots. Conditions: none. What the reference's key brings; the walk over its all, given key. Conditions: those each names. The walk over the reference's all, given key at the same depth. Conditions: those that key's contract names. The walk over the reference's key: where something was wrong before, where it is too much, where no word is left. Conditions: those that key's contract names. The walk over the reference's key: where it is too much, where no word is left, at a list. Conditions: those that key's contract names. -/
import Derived.Test.YtcahhnjponeeeaaGreatDoorPkCmdJ
import Derived.Test.YtcahhnjponeeeaaGreatDoorPkRSetC
import Derived.Test.YtcahhnjponeeeaaGreatDoorPkRFlagA
namespace Go.Proofs.YtcahhnjponeeeaaGreatDoor
open Go.RowKit Go.Shelf Go.Sort
set_option linter.unusedSimpArgs false
/-- a reader of keys: how many were begun, the first thing that was wrong -/
def KsC (w : World) (K : Nat) (n e : Int) : Prop := w.heap[K]? = some (.cells #[.int .i64 n, .int .i64 e] 56 (0, 0))
theorem two_cellsK {w : World} {U : Nat} {a b : Value} {T : TypeId} {fz : Nat × Nat} (h : w.heap[U]? = some (.cells #[a, b] T fz)) : w.cell? ⟨U, 0, none⟩ = some a ∧ w.cell? ⟨U, 1, none⟩ = some b := ⟨by rw [Lib.cell_of_heap h]; rfl, by rw [Lib.cell_of_heap h]; rfl⟩
def faultK (E e : Int) : Int := if e = 0 then E else e
set_option maxRecDepth 100000 in
set_option maxHeartbeats 2000000 in
theorem kfails_any (K : Nat) (n e E : Int) (w : World) (h : KsC w K n e) :
    Calls Tryz.prog 69 #[.pointer (some ⟨K, 0, none⟩), .int .i64 E] w fun x w' => x = .returned (.tuple #[]) ∧ KsC w' K n (faultK E e) ∧ Kept (fun j => j = K) w w' := by
  obtain ⟨c0, c1⟩ := two_cellsK h
  have fz := Lib.frozen_of_heap h
  have HK := Lib.hid h
  unfold faultK
  clear h
  by_cases he : e = 0
  · subst he
    rw [if_pos rfl]
    go_enter Tryz.func69, Tryz.ntmps69
    go_wp2_with fail
    exact ⟨rfl, _, kresults_noneC rfl _ _, rfl, set2_1 HK.out, (show Kept (fun j => j = K) w w from Kept.refl _ _).set (p := ⟨K, 1, none⟩) (fun _ => rfl) _⟩
  · rw [if_neg he]
    have he1 : (e == 0) = false := by rw [beq_eq_false_iff_ne]; exact he
    have he2 : decide (e = 0) = false := decide_eq_false he
    go_enter Tryz.func69, Tryz.ntmps69
    go_wp2_with fail
    exact ⟨rfl, _, kresults_noneC rfl _ _, rfl, HK.out, Kept.refl _ _⟩
/-- what word brings -/
def KWordS (K B : Nat) (n e : Int) (l : List Wd) (w : World) (x : Ending) (w' : World) : Prop :=
  ∃ (s : List UInt8) (a : Option Addr) (c : Nat) (l' : List Wd) (e' : Int), x = .returned (.tuple #[.string ⟨s.toArray⟩, .slice a l'.length c]) ∧ s.length ≤ 1000000 ∧ Hid (WordsL w' (fun j => j < B) (.slice a l'.length c) l') ∧ Hid (KsC w' K n e') ∧ Hid (Kept (fun j => j = K) w w') ∧
    Hid ((wordK l = .ok (s, l') ∧ e' = e) ∨ (wordK l = .error 3 ∧ s = [] ∧ l' = [] ∧ e' = faultK 3 e))
set_option maxRecDepth 100000 in
set_option maxHeartbeats 4000000 in
theorem kword_any (K B : Nat) (n e : Int) (a : Option Addr) (c : Nat) (l : List Wd) (w : World) (h : KsC w K n e) (hv : WordsL w (fun j => j < B) (.slice a l.length c) l) (hB : B ≤ K) :
    Calls Tryz.prog 70 #[.pointer (some ⟨K, 0, none⟩), .slice a l.length c] w (KWordS K B n e l w) := by
  have cF := kfails_any K n e 3 w h
  obtain ⟨_, hlc, hcm⟩ := hv.bound
  cases l with
  | nil =>
    have e1 : decide (((([] : List Wd).length : Nat) : Int) = 0) = true := by decide
    have hw : wordK [] = .error 3 := rfl
    have HWK := Lib.hid hw
    clear hv hlc h hw
    go_enter Tryz.func70, Tryz.ntmps70
    go_wp2_with ((go_at_call 69; (((with_reducible refine cF.mono ?_); rintro e4 w1 ⟨rfl, hc1, hk1⟩))))
    go_ret2
    exact ⟨[], none, 0, [], _, rfl, by decide, Lib.hid (wordsL_nil _ _), hc1, hk1, Lib.hid (Or.inr ⟨HWK.out, rfl, rfl, rfl⟩)⟩
  | cons t l =>
    obtain ⟨g, off, va, vc, rfl, -, hc1, hc2, hg, x0, x1, x2, ht, hl1, hl2⟩ := hv.cons
    have hlen : (t :: l).length = l.length + 1 := rfl
    rw [hlen] at *
    by_cases hk : t.kind = 3
    · have e : wordK (t :: l) = .error 3 := by rw [wordK, if_pos hk]
      rw [hk] at x0
      have HE := Lib.hid e
      clear e hv hl1 hl2 x1 x2 hk hlen ht h
      go_enter Tryz.func70, Tryz.ntmps70
      go_wp2_with ((go_at_call 69; (((with_reducible refine cF.mono ?_); rintro e4 w1 ⟨rfl, hc1, hk1⟩))))
      go_ret2
      exact ⟨[], none, 0, [], _, rfl, by decide, Lib.hid (wordsL_nil _ _), hc1, hk1, Lib.hid (Or.inr ⟨HE.out, rfl, rfl, rfl⟩)⟩
    · have e1 : wordK (t :: l) = .ok (t.text, l) := by rw [wordK, if_neg hk]
      have hkd : decide (t.kind = 3) = false := decide_eq_false hk
      have hkb : (t.kind == 3) = false := by rw [beq_eq_false_iff_ne]; exact hk
      have HE := Lib.hid e1
      have HT := Lib.hid ht
      have HL := Lib.hid hl2
      have HKC := Lib.hid h
      clear e1 hv hl1 hl2 x2 hlen ht cF h
      go_enter Tryz.func70, Tryz.ntmps70
      go_upto_region 4 with fail
      go_quiet (fail)
      have yd : Below w.heap.size w (w.drewN nq) := below_drewN (Below.refl _ _) nq
      go_wp2_with fail
      all_goals
        go_ret2
        refine ⟨t.text, _, _, l, e, rfl, HT.out, Lib.hid ?_, Lib.hid (below_same yd HKC.out), Lib.hid (kept_below yd), Lib.hid (Or.inl ⟨HE.out, rfl⟩)⟩
        first
          | exact HL.out.under yd
          | exact wordsL_none (by omega) (by omega)
theorem setsF_pos : ∀ (l : List (List UInt8)) (acc : List Rg) (E : Nat), setsF l acc = .error E → 0 < E
  | [], acc, E, h => by rw [setsF] at h; cases h
  | t :: r, acc, E, h => by
    rw [setsF] at h
    split at h
    · cases h; decide
    · split at h
      · cases h; decide
      · exact setsF_pos r _ E h
theorem parseS_pos {s : List UInt8} {E : Nat} (h : parseS s = .error E) : 0 < E := setsF_pos _ _ _ h
/-- what set brings -/
def KSetS (K : Nat) (n e : Int) (s : List UInt8) (w : World) (x : Ending) (w' : World) : Prop := match parseS s with
  | .error E => x = .returned (.slice none 0 0) ∧ Hid (KsC w' K n (faultK (E : Int) e)) ∧ Hid (Kept (fun j => j = K) w w')
  | .ok l => ∃ v, x = .returned v ∧ Hid (w'.ownsRow w.heap.size 100 2 v l.length (rgCells l)) ∧ Hid (KsC w' K n e) ∧ Hid (Kept (fun j => j = K) w w')
set_option maxRecDepth 100000 in
set_option maxHeartbeats 4000000 in
theorem kset_any (K : Nat) (n e : Int) (s : List UInt8) (w : World) (h : KsC w K n e) (hs : s.length ≤ 1000000) (hG : StrG w) (hM : MaxG w) :
    Calls Tryz.prog 73 #[.pointer (some ⟨K, 0, none⟩), .string ⟨s.toArray⟩] w (KSetS K n e s w) := by
  have cP := parseSet_any s w hs hG hM
  have HKC := Lib.hid h
  clear h
  unfold KSetS
  cases hp : parseS s with
  | error E =>
    have cP : Calls Tryz.prog 101 #[.string ⟨s.toArray⟩] w fun x w' => x = .returned (.tuple #[.slice none 0 0, .int .i64 (E : Int)]) ∧ Below w.heap.size w w' := cP.mono (by
      intro x w' h; unfold RefP at h; rw [hp] at h; exact h)
    have hpos : 0 < E := parseS_pos hp
    have hz : ((E : Int) != 0) = true := by rw [bne_iff_ne]; omega
    have hz2 : ((E : Int) == 0) = false := by rw [beq_eq_false_iff_ne]; omega
    have hz3 : decide ((E : Int) = 0) = false := decide_eq_false (by omega)
    clear hp hpos
    show Calls _ _ _ _ fun x w' => x = .returned (.slice none 0 0) ∧ Hid (KsC w' K n (faultK (E : Int) e)) ∧ Hid (Kept (fun j => j = K) w w')
    go_enter Tryz.func73, Tryz.ntmps73
    go_wp2_with (first
      | ((go_at_call 101; (((with_reducible refine cP.mono ?_); rintro e4 w1 ⟨rfl, hb⟩; have cF := kfails_any K n e (E : Int) w1 (below_same hb HKC.out)))))
      | ((go_at_call 69; (((with_reducible refine cF.mono ?_); rintro e4 w2 ⟨rfl, hc2, hk2⟩)))))
    go_ret
    exact ⟨rfl, hc2, (kept_below hb).trans hk2⟩
  | ok l =>
    have cP : Calls Tryz.prog 101 #[.string ⟨s.toArray⟩] w fun x w' => ∃ v, x = .returned (.tuple #[v, .int .i64 0]) ∧ Hid (w'.ownsRow w.heap.size 100 2 v l.length (rgCells l)) ∧ Below w.heap.size w w' := cP.mono (by
      intro x w' h; unfold RefP at h; rw [hp] at h; exact h)
    clear hp
    show Calls _ _ _ _ fun x w' => ∃ v, x = .returned v ∧ Hid (w'.ownsRow w.heap.size 100 2 v l.length (rgCells l)) ∧ Hid (KsC w' K n e) ∧ Hid (Kept (fun j => j = K) w w')
    go_enter Tryz.func73, Tryz.ntmps73
    go_wp2_with ((go_at_call 101; (((with_reducible refine cP.mono ?_); rintro e4 w1 ⟨v, rfl, ho, hb⟩))))
    go_ret
    exact ⟨v, rfl, ho, below_same hb HKC.out, kept_below hb⟩
end Go.Proofs.YtcahhnjponeeeaaGreatDoor
namespace Go.Proofs.YtcahhnjponeeeaaGreatDoor
open Go.RowKit Go.Shelf Go.Sort
set_option linter.unusedSimpArgs false
set_option maxRecDepth 100000 in
set_option maxHeartbeats 8000000 in
theorem knots_any (a b c d e f : Value) (w : World) : Calls Tryz.prog 72 #[.agg #[a, b, c, d, e, f]] w fun x w' => x = .returned (.agg #[.int .i64 13, .string ⟨#[]⟩, .string ⟨#[]⟩, .int .i64 0, .slice none 0 0, .slice (some ⟨w.heap.size + 2, 0, none⟩) 1 1]) ∧ Below w.heap.size w w' ∧ w'.heap[w.heap.size + 2]? = some (.cells #[a, b, c, d, e, f] 32 (0, 0)) := by
  have s1 := alloc_size w (.cells #[a, b, c, d, e, f] 32)
  go_enter Tryz.func72, Tryz.ntmps72
  go_wp2_with fail
  have hn := World.heap_alloc_new (w.alloc (.cells #[a, b, c, d, e, f] 32)) (.cells #[.int .i64 13, .string ⟨#[]⟩, .string ⟨#[]⟩, .int .i64 0, .slice none 0 0, .slice (some ⟨w.heap.size + 1 + 1, 0, none⟩) 1 1] 32)
  have s2 := alloc_size (w.alloc (.cells #[a, b, c, d, e, f] 32)) (.cells #[.int .i64 13, .string ⟨#[]⟩, .string ⟨#[]⟩, .int .i64 0, .slice none 0 0, .slice (some ⟨w.heap.size + 1 + 1, 0, none⟩) 1 1] 32)
  have hn2 := World.heap_alloc_new ((w.alloc (.cells #[a, b, c, d, e, f] 32)).alloc (.cells #[.int .i64 13, .string ⟨#[]⟩, .string ⟨#[]⟩, .int .i64 0, .slice none 0 0, .slice (some ⟨w.heap.size + 1 + 1, 0, none⟩) 1 1] 32)) (.cells #[a, b, c, d, e, f] 32)
  rw [s1] at hn s2
  rw [s2] at hn2
  refine bodyPost_ret (results_cell_row (P := Tryz.prog) rfl _ _ (w.heap.size + 1) _ _ _ _ rfl (alloc_same hn) Tryz.underlying32 rfl key_size) rfl ?_
  exact ⟨rfl, (((Below.refl _ _).alloc (Nat.le_refl _) _).alloc (by omega) _).alloc (by omega) _, hn2⟩
theorem nameF_pos {s : List UInt8} {n : Nat} (h : nameF s = .inl n) : 0 < n := by
  unfold nameF at h
  split at h
  · split at h
    · cases h
    · cases h; decide
  · split at h
    · cases h; decide
    · split at h
      · cases h; decide
      · cases h
/-- what flag brings: a key of a flag's name -/
def KFlagS (K : Nat) (n e : Int) (s : List UInt8) (w : World) (x : Ending) (w' : World) : Prop :=
  ∃ (nm : List UInt8) (e' : Int), x = .returned (.agg #[.int .i64 2, .string ⟨nm.toArray⟩, .string ⟨#[]⟩, .int .i64 0, .slice none 0 0, .slice none 0 0]) ∧ Hid (KsC w' K n e') ∧ Hid (Kept (fun j => j = K) w w') ∧
    Hid ((nameF s = .inr nm ∧ e' = e) ∨ ∃ E : Nat, nameF s = .inl E ∧ nm = [] ∧ e' = faultK (E : Int) e)
set_option maxRecDepth 100000 in
set_option maxHeartbeats 8000000 in
theorem kflag_any (K : Nat) (n e : Int) (s : List UInt8) (w : World) (h : KsC w K n e) (hs : s.length ≤ 1000000) :
    Calls Tryz.prog 71 #[.pointer (some ⟨K, 0, none⟩), .string ⟨s.toArray⟩] w (KFlagS K n e s w) := by
  have hKl : K < w.heap.size := (Array.getElem?_eq_some_iff.1 h).1
  obtain ⟨w1, hw1⟩ : ∃ w1, w.alloc (.cells #[.int .i64 0, .string ⟨#[]⟩, .string ⟨#[]⟩, .int .i64 0, .slice none 0 0, .slice none 0 0] 32) = w1 := ⟨_, rfl⟩
  have y1 : Below w.heap.size w w1 := hw1 ▸ (Below.refl _ _).alloc (Nat.le_refl _) _
  have z1 : w1.heap[w.heap.size]? = some (.cells #[.int .i64 0, .string ⟨#[]⟩, .string ⟨#[]⟩, .int .i64 0, .slice none 0 0, .slice none 0 0] 32 (0, 0)) := hw1 ▸ World.heap_alloc_new w _
  have cN := rname_any s w1 hs
  have HK1 := Lib.hid (below_same y1 h)
  have hKR : K ≠ w.heap.size := by omega
  clear h
  cases hn : nameF s with
  | inl E =>
    rw [hn] at cN
    have hpos := nameF_pos hn
    have cN : Calls Tryz.prog 100 #[.string ⟨s.toArray⟩] w1 fun x w' => x = .returned (.tuple #[.string ⟨#[]⟩, .int .i64 (E : Int)]) ∧ Below w1.heap.size w1 w' := cN
    have hz : ((E : Int) != 0) = true := by rw [bne_iff_ne]; omega
    have hz2 : ((E : Int) == 0) = false := by rw [beq_eq_false_iff_ne]; omega
    have hz3 : decide ((E : Int) = 0) = false := decide_eq_false (by omega)
    have HN := Lib.hid hn
    clear hn hpos
    go_enter Tryz.func71, Tryz.ntmps71
    go_upto_region 1 with fail
    clear hw1
    go_wp2_with (first
      | ((go_at_call 100; (((with_reducible refine cN.mono ?_); rintro e4 w2 ⟨rfl, hb⟩; have cF := kfails_any K n e (E : Int) w2 (below_same hb HK1.out); have z2 := below_same hb z1))))
      | ((go_at_call 69; (((with_reducible refine cF.mono ?_); rintro e4 w3 ⟨rfl, hc3, hk3⟩; have z3 := hk3.obj z2 (fun e => hKR e.symm); obtain ⟨r0, r1, r2, r3, r4, r5⟩ := ksix_cells z3; have fz := Lib.frozen_of_heap z3)))))
    refine bodyPost_ret (results_cell_row (P := Tryz.prog) rfl _ _ w.heap.size _ _ _ _ rfl (kset_six z3 _ _ _ _ _ _) Tryz.underlying32 rfl key_size) rfl ?_
    exact ⟨[], _, rfl, Lib.hid ((ksix_heap _ _ _ _ _ _ _ K hKR).trans hc3), Lib.hid (ksix_kept ((kept_below (y1.trans (hb.mono y1.size))).trans hk3) (Nat.le_refl _) _ _ _ _ _ _), Lib.hid (Or.inr ⟨E, HN.out, rfl, rfl⟩)⟩
  | inr nm =>
    rw [hn] at cN
    have cN : Calls Tryz.prog 100 #[.string ⟨s.toArray⟩] w1 fun x w' => x = .returned (.tuple #[.string ⟨nm.toArray⟩, .int .i64 0]) ∧ Below w1.heap.size w1 w' := cN
    have HN := Lib.hid hn
    clear hn
    go_enter Tryz.func71, Tryz.ntmps71
    go_upto_region 1 with fail
    clear hw1
    go_wp2_with ((go_at_call 100; (((with_reducible refine cN.mono ?_); rintro e4 w2 ⟨rfl, hb⟩; have z2 := below_same hb z1; obtain ⟨r0, r1, r2, r3, r4, r5⟩ := ksix_cells z2; have fz := Lib.frozen_of_heap z2))))
    refine bodyPost_ret (results_cell_row (P := Tryz.prog) rfl _ _ w.heap.size _ _ _ _ rfl (kset_six z2 _ _ _ _ _ _) Tryz.underlying32 rfl key_size) rfl ?_
    exact ⟨nm, e, rfl, Lib.hid ((ksix_heap _ _ _ _ _ _ _ K hKR).trans (below_same hb HK1.out)), Lib.hid (ksix_kept (kept_below (y1.trans (hb.mono y1.size))) (Nat.le_refl _) _ _ _ _ _ _), Lib.hid (Or.inl ⟨HN.out, rfl⟩)⟩
end Go.Proofs.YtcahhnjponeeeaaGreatDoor
namespace Go.Proofs.YtcahhnjponeeeaaGreatDoor
open Go.RowKit Go.Shelf Go.Sort
set_option linter.unusedSimpArgs false
/-- the tables lie as they are, whatever the reader writes -/
def GW (K : Nat) (w : World) : Prop := ∀ W, Kept (fun j => j = K) w W → StrG W ∧ MaxG W
theorem GW.next {K : Nat} {w w' : World} (h : GW K w) (hk : Kept (fun j => j = K) w w') : GW K w' := fun W h' => h W (hk.trans h')
theorem GW.at {K : Nat} {w : World} (h : GW K w) : StrG w ∧ MaxG w := h w (Kept.refl _ _)
/-- what key brings: the document's key where nothing was wrong before -/
def RKS (B K : Nat) (r : KeyE) (e : Int) (w : World) (x : Ending) (w' : World) : Prop :=
  ∃ (cs : List Value) (k : KeyP) (a : Option Addr) (c : Nat) (l' : List Wd) (n' e' : Int),
    x = .returned (.tuple #[.agg cs.toArray, .slice a l'.length c]) ∧ Hid (KeyC w' (fun j => w.heap.size ≤ j) cs k) ∧ Hid (WordsL w' (fun j => j < B) (.slice a l'.length c) l') ∧ Hid (KsC w' K n' e') ∧ Hid (Kept (fun j => j = K) w w') ∧
    Hid (e = 0 → match r with | .ok (k0, l0, n0) => k = k0 ∧ l' = l0 ∧ n' = (n0 : Int) ∧ e' = 0 | .error E => e' = (E : Int) ∧ 0 < E) ∧ Hid (e ≠ 0 → e' = e)
/-- what all brings -/
def RAS (K : Nat) (r : Except Nat (KeyP × Nat)) (w : World) (x : Ending) (w' : World) : Prop :=
  ∃ (cs : List Value) (k : KeyP) (n' e' : Int), x = .returned (.agg cs.toArray) ∧ Hid (KeyC w' (fun j => w.heap.size ≤ j) cs k) ∧ Hid (KsC w' K n' e') ∧ Hid (Kept (fun j => j = K) w w') ∧
    Hid (match r with | .ok (k0, n0) => k = k0 ∧ n' = (n0 : Int) ∧ e' = 0 | .error E => e' = (E : Int) ∧ 0 < E)
def KeySpec (d D : Nat) : Prop := ∀ (B K : Nat) (n e : Int) (m : Nat) (a : Option Addr) (c : Nat) (l : List Wd) (w : World), KsC w K n e → WordsL w (fun j => j < B) (.slice a l.length c) l → B ≤ K → (e = 0 → n = (m : Int) ∧ m ≤ 60) → GW K w →
    Calls Tryz.prog 45 #[.pointer (some ⟨K, 0, none⟩), .slice a l.length c, .int .i64 (D : Int)] w (RKS B K (keyK d l m) e w)
/-- the keys so far, in a row of their own -/
structure RowR (w : World) (B K : Nat) (n e : Int) (v : Value) (l : List Wd) (items : List (KeyP × List Value)) (kv : Value) (wr : World) : Prop where
  ks : KsC wr K n e
  words : WordsL wr (fun j => j < B) v l
  res : wr.heap[w.heap.size]? = some (.cells zero6 32 (0, 0))
  kept : Kept (fun j => j = K) w wr
  own : wr.ownsRow (w.heap.size + 1) 32 6 kv items.length (cellsK items)
  kids : ∀ x ∈ items, KeyC wr (fun j => w.heap.size < j ∧ kv.ownBlock ≠ some j) x.2 x.1
theorem ks_ne {w : World} {K k : Nat} {n e : Int} {c : Array Value} {T : TypeId} {fz : Nat × Nat} (h : KsC w K n e) (hk : w.heap[k]? = some (.cells c T fz)) (hT : T ≠ 56) : k ≠ K := by
  rintro rfl
  unfold KsC at h
  rw [hk] at h
  have := congrArg (fun o : Option Obj => match o with | some (.cells _ t _) => t | _ => T) h
  exact hT this
theorem RowR.call {w wr w' : World} {B K : Nat} {n e n' e' : Int} {v v' : Value} {l l' : List Wd} {items : List (KeyP × List Value)} {kv : Value} (h : RowR w B K n e v l items kv wr) (hK : K < w.heap.size) (hk : Kept (fun j => j = K) wr w') (hs : KsC w' K n' e') (hw : WordsL w' (fun j => j < B) v' l') : RowR w B K n' e' v' l' items kv w' := by
  refine ⟨hs, hw, hk.obj h.res (ks_ne h.ks h.res (by decide)), h.kept.trans hk, ?_, fun x hx => ?_⟩
  · refine owns_same h.own fun j o hj hor => hk.obj hj ?_
    obtain ⟨c, fz, rfl⟩ := hor
    exact ks_ne h.ks hj (by decide)
  · exact (h.kids x hx).keep hk.size (fun j hj hl => hk.block j hl (fun e => by have : j = K := e; omega)) (fun j hj _ => hj)
theorem RowR.push {w w4 w6 : World} {B K : Nat} {n e : Int} {v : Value} {l : List Wd} {items : List (KeyP × List Value)} {kv kv' : Value} (h : RowR w B K n e v l items kv w4) (hK : K < w.heap.size) (hBK : B ≤ K) (k : KeyP) (a b c d e1 f : Value) (H : Nat) (hH : w.heap.size < H) (hv : ∀ g, kv.ownBlock = some g → g < H) (hc : KeyC w4 (fun j => H ≤ j) [a, b, c, d, e1, f] k)
    (hown : w6.ownsRow (w.heap.size + 1) 32 6 kv' (items.length + 1) (cellsK items ++ [a, b, c, d, e1, f])) (hg : (w4.alloc (.cells #[a, b, c, d, e1, f] 32)).grownBy w6 kv.ownBlock) (hat : ∀ g, kv'.ownBlock = some g → kv.ownBlock = some g ∨ g = w4.heap.size + 1) :
    RowR w B K n e v l (items ++ [(k, [a, b, c, d, e1, f])]) kv' w6 := by
  have hR : w.heap.size < w4.heap.size := (Array.getElem?_eq_some_iff.1 h.res).1
  have hsz := alloc_size w4 (.cells #[a, b, c, d, e1, f] 32)
  have hle := hg.size
  have hlow : ∀ j, kv.ownBlock = some j → w.heap.size + 1 ≤ j := fun j e => (h.own.lt j e).1
  have same : ∀ j, j < w4.heap.size → kv.ownBlock ≠ some j → w6.heap[j]? = w4.heap[j]? := fun j hj hne =>
    (hg.block j (by omega) (fun e => hne e.symm)).trans (Below.heap_alloc w4 _ j hj)
  have hb : Below (w.heap.size + 1) w4 w6 := ((Below.refl (w.heap.size + 1) w4).alloc (by omega) _).grown hg (by omega) (fun j e => hlow j e)
  refine ⟨(hb.block K (by omega)).trans h.ks, h.words.keep (by omega) (fun j hj _ => hb.block j (by omega)) (fun _ hj _ => hj), (hb.block _ (by omega)).trans h.res, h.kept.next (hb.mono (by omega)), ?_, ?_⟩
  · have e1' : (items ++ [(k, [a, b, c, d, e1, f])]).length = items.length + 1 := by simp
    have e2 : cellsK (items ++ [(k, [a, b, c, d, e1, f])]) = cellsK items ++ [a, b, c, d, e1, f] := by simp [cellsK]
    rw [e1', e2]
    exact hown
  · intro y hy
    have key : ∀ (ok : Nat → Prop) (cs : List Value) (u : KeyP), KeyC w4 ok cs u → (∀ j, ok j → w.heap.size < j ∧ kv.ownBlock ≠ some j) → KeyC w6 (fun j => w.heap.size < j ∧ kv'.ownBlock ≠ some j) cs u := fun ok cs u hr hok => by
      refine hr.keep (by omega) (fun j hj hl => same j hl (hok j hj).2) (fun j hj hl => ⟨(hok j hj).1, fun e => ?_⟩)
      rcases hat j e with h' | h'
      · exact (hok j hj).2 h'
      · omega
    rcases List.mem_append.1 hy with h' | h'
    · exact key _ _ _ (h.kids y h') (fun j hj => hj)
    · rw [List.mem_singleton] at h'
      subst h'
      exact key _ _ _ hc (fun j hj => ⟨by omega, fun e => by have := hv j e; omega⟩)
/-- a key is laid as the result of all -/
theorem RowR.done {w wr : World} {B K : Nat} {n e : Int} {v : Value} {l : List Wd} {items : List (KeyP × List Value)} {kv : Value} (h : RowR w B K n e v l items kv wr) (hK : K < w.heap.size) {a b c d e1 f : Value} {k : KeyP} (hk : KeyC wr (fun j => w.heap.size < j) [a, b, c, d, e1, f] k) {r : Except Nat (KeyP × Nat)} (hr : match r with | .ok (k0, n0) => k = k0 ∧ n = (n0 : Int) ∧ e = 0 | .error E => e = (E : Int) ∧ 0 < E) :
    RAS K r w (.returned (.agg #[a, b, c, d, e1, f])) ((((((wr.setCell ⟨w.heap.size, 0, none⟩ a).setCell ⟨w.heap.size, 1, none⟩ b).setCell ⟨w.heap.size, 2, none⟩ c).setCell ⟨w.heap.size, 3, none⟩ d).setCell ⟨w.heap.size, 4, none⟩ e1).setCell ⟨w.heap.size, 5, none⟩ f) :=
  ⟨[a, b, c, d, e1, f], k, n, e, rfl, Lib.hid (hk.keep (by rw [ksix_size]; exact Nat.le_refl _) (fun j hj _ => ksix_heap _ _ _ _ _ _ _ _ (by omega)) (fun j hj _ => Nat.le_of_lt hj)), Lib.hid ((ksix_heap _ _ _ _ _ _ _ _ (by omega)).trans h.ks), Lib.hid (ksix_kept h.kept (Nat.le_refl _) _ _ _ _ _ _), Lib.hid hr⟩
end Go.Proofs.YtcahhnjponeeeaaGreatDoor
namespace Go.Proofs.YtcahhnjponeeeaaGreatDoor
open Go.RowKit Go.Shelf Go.Sort
set_option linter.unusedSimpArgs false
def keysRk : Except Nat (List KeyP × Nat) → Except Nat (KeyP × Nat)
  | .error e => .error e
  | .ok (ks, n') => .ok (allK ks, n')
theorem keysRk_keys (f : List Wd → Nat → KeyE) (l : List Wd) (n : Nat) : keysK f l n = keysRk (loopK f (l.length + 1) l n []) := by
  unfold keysK
  cases loopK f (l.length + 1) l n [] with
  | error e => rfl
  | ok x => rfl
/-- what holds at the loop's head of all -/
def GoesR (d : Nat) (n e : Int) (l : List Wd) (items : List KeyP) (R : Except Nat (List KeyP × Nat)) (g : Nat) : Prop :=
  (e = 0 → ∃ m : Nat, n = (m : Int) ∧ m ≤ 60 ∧ items.length ≤ m ∧ l.length + 1 ≤ g ∧ GoesK (keyK d) l m items R) ∧ (e ≠ 0 → ∃ E : Nat, R = .error E ∧ e = (E : Int) ∧ 0 < E ∧ items ≠ [])
set_option linter.constructorNameAsVariable false in
set_option maxRecDepth 100000 in
set_option maxHeartbeats 16000000 in
theorem rall_any (d D : Nat) (hD : D ≤ 7) (IH : KeySpec d D) (B K m : Nat) (a : Option Addr) (c : Nat) (l : List Wd) (w : World) (h : KsC w K (m : Int) 0) (hm : m ≤ 60) (hw : WordsL w (fun j => j < B) (.slice a l.length c) l) (hB : B ≤ K) (hG : GW K w) :
    Calls Tryz.prog 14 #[.pointer (some ⟨K, 0, none⟩), .slice a l.length c, .int .i64 (D : Int)] w (RAS K (keysK (keyK d) l m) w) := by
  obtain ⟨R, hR⟩ : ∃ R, loopK (keyK d) (l.length + 1) l m [] = R := ⟨_, rfl⟩
  rw [keysRk_keys, hR]
  have hKl : K < w.heap.size := (Array.getElem?_eq_some_iff.1 h).1
  have H0 : Hid (RowR w B K (m : Int) 0 (.slice a l.length c) l [] (.slice none 0 0) (w.alloc (.cells zero6 32))) := Lib.hid ⟨below_same ((Below.refl _ _).alloc (Nat.le_refl _) _) h, hw.under ((Below.refl _ _).alloc (Nat.le_refl _) _), World.heap_alloc_new _ _, (Kept.refl _ _).alloc _, World.ownsRow_nil _ _ _ _, fun x hx => by cases hx⟩
  have HF0 : Hid (GoesR d (m : Int) 0 l [] R (l.length + 1)) := Lib.hid ⟨fun _ => ⟨m, rfl, hm, Nat.zero_le _, Nat.le_refl _, by
    unfold GoesK
    rw [if_neg (fun h => h.1 rfl)]
    exact ⟨_, Nat.le_refl _, hR⟩⟩, fun h => absurd rfl h⟩
  have HG := Lib.hid hG
  have HIH := Lib.hid IH
  have hstep := Lib.hid (key_step d)
  clear hR hG IH h hw hm
  go_enter Tryz.func14, Tryz.ntmps14
  go_wp2_with fail
  go_loopg [1, 7, 8] (l.length + 1) (fun g s1 s7 s8 wr => ∃ (items : List (KeyP × List Value)) (n e : Int) (a : Option Addr) (c : Nat) (l' : List Wd) (ka : Option Addr) (kc : Nat), s1 = .slice a l'.length c ∧ s7 = .slice ka items.length kc ∧ Hid (RowR w B K n e (.slice a l'.length c) l' items (.slice ka items.length kc) wr) ∧ Hid (GoesR d n e l' (items.map (·.1)) R g))
  case atStart => exact ⟨[], (m : Int), 0, a, c, l, none, 0, rfl, rfl, H0, HF0⟩
  case round =>
    clear H0 HF0
    obtain ⟨items, n, e, a, c, l', ka, kc, rfl, rfl, HK, HF⟩ := hrel
    obtain ⟨c0, c1⟩ := two_cellsK HK.out.ks
    obtain ⟨_, hlc, hcm⟩ := HK.out.words.bound
    go_upto_region 2 with fail
    go_cut [23] (fun s23 wx => ∃ T : Bool, s23 = .bool T ∧ wr = wx ∧ Hid (T = true → e = 0 ∧ ¬ (items ≠ [] ∧ l' = [])) ∧ Hid (T = false → items ≠ [] ∧ (e = 0 → l' = [])))
    case first =>
      by_cases he : e = 0
      · subst he
        by_cases hi : items = []
        · subst hi
          have e1 : decide (((([] : List (KeyP × List Value)).length : Nat) : Int) = 0) = true := by decide
          go_wp2_with fail
          go_meet
          exact ⟨true, rfl, rfl, Lib.hid (fun _ => ⟨by first | rfl | trivial, by simp⟩), Lib.hid (fun h => by cases h)⟩
        · have hi1 : ¬ ((items.length : Int) = 0) := fun h => hi (List.eq_nil_of_length_eq_zero (by omega))
          have hi2 : ((items.length : Int) == 0) = false := by rw [beq_eq_false_iff_ne]; exact hi1
          have hi3 : decide ((items.length : Int) = 0) = false := decide_eq_false hi1
          by_cases hl : l' = []
          · subst hl
            go_wp2_with fail
            go_meet
            exact ⟨false, rfl, rfl, Lib.hid (fun h => by cases h), Lib.hid (fun _ => ⟨hi, fun _ => by first | rfl | trivial⟩)⟩
          · have hl1 : (0 : Int) < (l'.length : Int) := by have := List.length_pos_iff.2 hl; omega
            go_wp2_with fail
            go_meet
            exact ⟨true, by first | rfl | (rw [decide_eq_true (List.length_pos_iff.2 hl)]), rfl, Lib.hid (fun _ => ⟨by first | rfl | trivial, fun h => hl h.2⟩), Lib.hid (fun h => by cases h)⟩
      · have he1 : (e == 0) = false := by rw [beq_eq_false_iff_ne]; exact he
        have he2 : decide (e = 0) = false := decide_eq_false he
        have hne : items ≠ [] := fun h => by
          obtain ⟨E, _, _, _, h2⟩ := HF.out.2 he
          exact h2 (by rw [h]; rfl)
        go_wp2_with fail
        go_meet
        exact ⟨false, rfl, rfl, Lib.hid (fun h => by cases h), Lib.hid (fun _ => ⟨hne, fun h => absurd h he⟩)⟩
    case rest =>
      obtain ⟨T, rfl, rfl, HT, HT2⟩ := hcut
      cases T with
      | true =>
        obtain ⟨rfl, hend⟩ := HT.out rfl
        obtain ⟨m2, rfl, hm60, him, hgl, hgo⟩ := HF.out.1 rfl
        rw [List.length_map] at him
        obtain ⟨g', rfl⟩ : ∃ g', gk = g' + 1 := ⟨gk - 1, by omega⟩
        obtain ⟨fu, hfu, hF⟩ : ∃ fu, l'.length + 1 ≤ fu ∧ loopK (keyK d) fu l' m2 (items.map (·.1)) = R := by
          unfold GoesK at hgo
          rw [if_neg (fun h => hend ⟨by simpa using h.1, h.2⟩)] at hgo
          exact hgo
        obtain ⟨fu, rfl⟩ : ∃ f2, fu = f2 + 1 := ⟨fu - 1, by omega⟩
        obtain ⟨w1, hw1⟩ : ∃ w1, wr.alloc (.cells #[.int .i64 0, .string ⟨#[]⟩, .string ⟨#[]⟩, .int .i64 0, .slice none 0 0, .slice none 0 0] 32) = w1 := ⟨_, rfl⟩
        have y1 : Below wr.heap.size wr w1 := hw1 ▸ (Below.refl _ _).alloc (Nat.le_refl _) _
        have x1 : w1.heap[wr.heap.size]? = some (.cells #[.int .i64 0, .string ⟨#[]⟩, .string ⟨#[]⟩, .int .i64 0, .slice none 0 0, .slice none 0 0] 32 (0, 0)) := hw1 ▸ World.heap_alloc_new wr _
        have s1 : w1.heap.size = wr.heap.size + 1 := by rw [← hw1, alloc_size]
        have hKr : K < wr.heap.size := Nat.lt_of_lt_of_le hKl HK.out.kept.size
        have cK := HIH.out B K (m2 : Int) 0 m2 a c l' w1 (below_same y1 HK.out.ks) (HK.out.words.under y1) hB (fun _ => ⟨rfl, hm60⟩) (HG.out.next (HK.out.kept.trans (kept_below y1)))
        have hwr : w.heap.size < wr.heap.size := (Array.getElem?_eq_some_iff.1 HK.out.res).1
        have hwl : ∀ g, (Value.slice ka items.length kc).ownBlock = some g → g < wr.heap.size := fun g hg => (HK.out.own.lt g hg).2
        clear HT HT2 hgo c0 c1
        go_upto_region 4 with fail
        obtain ⟨X, hX⟩ : ∃ X, wr.heap.size = X := ⟨_, rfl⟩
        rw [hX] at x1 s1 hKr hwr hwl ⊢
        have HX := Lib.hid hX
        clear hw1 hX
        obtain ⟨x0', x1', x2', x3', x4', x5'⟩ := ksix_cells x1
        go_upto_region 5 with (go_at_call 45; (((with_reducible refine cK.mono ?_); rintro e4 w2 ⟨cs, k, a2, c2, l2, n2, e2, rfl, hkc, hwd2, hks2, hk12, hr2, -⟩; obtain ⟨code, name, text, kn, set, keys, sa, kb, sc, kcc, rfl⟩ := hkc.out.six; have x2 := hk12.out.obj x1 (by omega); obtain ⟨r0, r1, r2, r3, r4, r5⟩ := ksix_cells x2; have fz := Lib.frozen_of_heap x2)))
        have hw3 := kset_six x2 (.int .i64 code) (.string ⟨name.toArray⟩) (.string ⟨text.toArray⟩) (.int .i64 kn) (.slice sa set.length sc) (.slice kb keys.length kcc)
        have hsz3 := ksix_size w2 (U := X) (.int .i64 code) (.string ⟨name.toArray⟩) (.string ⟨text.toArray⟩) (.int .i64 kn) (.slice sa set.length sc) (.slice kb keys.length kcc)
        have hhp3 := ksix_heap w2 (U := X) (.int .i64 code) (.string ⟨name.toArray⟩) (.string ⟨text.toArray⟩) (.int .i64 kn) (.slice sa set.length sc) (.slice kb keys.length kcc)
        have hk13 : Kept (fun j => j = K) wr ((((((w2.setCell ⟨X, 0, none⟩ (.int .i64 code)).setCell ⟨X, 1, none⟩ (.string ⟨name.toArray⟩)).setCell ⟨X, 2, none⟩ (.string ⟨text.toArray⟩)).setCell ⟨X, 3, none⟩ (.int .i64 kn)).setCell ⟨X, 4, none⟩ (.slice sa set.length sc)).setCell ⟨X, 5, none⟩ (.slice kb keys.length kcc)) := ksix_kept ((kept_below y1).trans hk12.out) (by rw [HX.out]; exact Nat.le_refl _) _ _ _ _ _ _
        generalize ((((((w2.setCell ⟨X, 0, none⟩ (.int .i64 code)).setCell ⟨X, 1, none⟩ (.string ⟨name.toArray⟩)).setCell ⟨X, 2, none⟩ (.string ⟨text.toArray⟩)).setCell ⟨X, 3, none⟩ (.int .i64 kn)).setCell ⟨X, 4, none⟩ (.slice sa set.length sc)).setCell ⟨X, 5, none⟩ (.slice kb keys.length kcc)) = w3 at hw3 hsz3 hhp3 hk13 ⊢
        have hrow := HK.out.call hKl hk13 (n' := n2) (e' := e2) (v' := .slice a2 l2.length c2) (l' := l2) ((hhp3 K (by omega)).trans hks2.out) (hwd2.out.keep (by rw [hsz3]; exact Nat.le_refl _) (fun j hj _ => hhp3 j (by omega)) (fun _ hj _ => hj))
        have hkc3 : KeyC w3 (fun j => X + 1 ≤ j) _ k := hkc.out.keep (by rw [hsz3]; exact Nat.le_refl _) (fun j hj _ => hhp3 j (by omega)) (fun j hj _ => by omega)
        obtain ⟨q0, q1, q2, q3, q4, q5⟩ := ksix_cells hw3
        clear r0 r1 r2 r3 r4 r5 fz x2 x0' x1' x2' x3' x4' x5' cK hkc hwd2 hks2 hsz3 hhp3
        have hil : items.length ≤ 60 := by omega
        have hsx : X < w3.heap.size := (Array.getElem?_eq_some_iff.1 hw3).1
        have ho3 := hrow.own
        go_wp2_with (at_builtin; go_must (refine wpList_app6 rfl _ _ 30 rfl 32 Tryz.underlying30 key_info rfl (w.heap.size + 1) (.slice ka items.length kc) items.length (cellsK items) w3 rfl ho3 _ _ _ _ _ _ rfl rfl rfl rfl rfl rfl rfl ?c3 (by decide) ?c5 ?_))
        case c3 => omega
        case c5 => omega
        intro v' w6 hown6 hg6 hat
        obtain ⟨na, nc, rfl⟩ := own_slice6 hown6
        have hnew := hrow.push hKl hB k _ _ _ _ _ _ (X + 1) (by omega) (fun g hg => by have := hwl g hg; omega) hkc3 hown6 hg6 hat
        have HN := Lib.hid hnew
        have hr2' := hr2.out (by first | rfl | trivial)
        have HR2 := Lib.hid hr2'
        have hlen : (items ++ [(k, [Value.int .i64 code, .string ⟨name.toArray⟩, .string ⟨text.toArray⟩, .int .i64 kn, .slice sa set.length sc, .slice kb keys.length kcc])]).length = items.length + 1 := by simp
        clear hnew hr2' hr2 hown6 hg6 hat hrow ho3
        go_wp2_with fail
        go_roundg g'
        case measure => omega
        case rel =>
          refine ⟨items ++ [(k, _)], n2, e2, a2, c2, l2, na, nc, rfl, by rw [hlen], by rw [hlen]; exact HN, Lib.hid ?_⟩
          have hr := HR2.out
          cases hkk : keyK d l' m2 with
          | error E =>
            rw [hkk] at hr
            obtain ⟨rfl, hE⟩ := hr
            rw [loop_bad hkk] at hF
            exact ⟨fun h => by omega, fun _ => ⟨E, hF.symm, rfl, hE, by simp⟩⟩
          | ok x =>
            obtain ⟨k0, l0, n0⟩ := x
            rw [hkk] at hr
            obtain ⟨rfl, rfl, rfl, rfl⟩ := hr
            obtain ⟨g1, g2, g3⟩ := hstep.out _ _ _ _ _ hkk
            rw [loop_more hkk] at hF
            refine ⟨fun _ => ⟨n0, rfl, g3, by simp; omega, by omega, ?_⟩, fun h => absurd rfl h⟩
            unfold GoesK
            by_cases he : l2 = []
            · rw [if_pos he] at hF
              rw [if_pos ⟨by simp, he⟩, ← hF]
              simp
            · rw [if_neg he] at hF
              rw [if_neg (fun h => he h.2)]
              exact ⟨fu, by omega, by simpa using hF⟩
      | false =>
        obtain ⟨hne, hle⟩ := HT2.out rfl
        clear HT HT2 HIH hstep HG
        have hr : match keysRk R with | .ok (k0, n0) => allK (items.map (·.1)) = k0 ∧ n = (n0 : Int) ∧ e = 0 | .error E => e = (E : Int) ∧ 0 < E := by
          by_cases he : e = 0
          · obtain ⟨m2, hm2, _, _, _, hgo⟩ := HF.out.1 he
            unfold GoesK at hgo
            rw [if_pos ⟨by simpa using hne, hle he⟩] at hgo
            rw [hgo]
            exact ⟨rfl, hm2, he⟩
          · obtain ⟨E, h1, h2, h3, _⟩ := HF.out.2 he
            rw [h1]
            exact ⟨h2, h3⟩
        have HRR := Lib.hid hr
        obtain ⟨r0, r1, r2, r3, r4, r5⟩ := ksix_cells HK.out.res
        have fz := Lib.frozen_of_heap HK.out.res
        clear hr HF
        cases items with
        | nil => exact absurd rfl hne
        | cons x rest =>
          cases rest with
          | nil =>
            obtain ⟨k, cs⟩ := x
            obtain ⟨code, name, text, kn, set, keys, sa, kb, sc, kcc, hcs⟩ := (HK.out.kids _ List.mem_cons_self).six
            simp only at hcs
            subst hcs
            rcases HK.out.own.2 with ⟨_, e0⟩ | ⟨g, cap, cur, eg, hg', hh, h3, h4, h5, h6⟩
            · cases e0
            · cases eg
              have hown1 := HK.out.own
              have hcell : ∀ (j : Nat) (u : Value), j < 6 → [Value.int .i64 code, .string ⟨name.toArray⟩, .string ⟨text.toArray⟩, .int .i64 kn, .slice sa set.length sc, .slice kb keys.length kcc][j]? = some u → wr.cell? ⟨g, j, none⟩ = some u := fun j u hj hu => by
                rw [hown1.cellAt j hj]
                exact hu
              have q0 := hcell 0 _ (by decide) rfl
              have q1 := hcell 1 _ (by decide) rfl
              have q2 := hcell 2 _ (by decide) rfl
              have q3 := hcell 3 _ (by decide) rfl
              have q4 := hcell 4 _ (by decide) rfl
              have q5 := hcell 5 _ (by decide) rfl
              clear hcell hh h5 h6 h4 hown1 c0 c1
              go_wp2_with fail
              refine bodyPost_ret (results_cell_row (P := Tryz.prog) rfl _ _ w.heap.size _ _ _ _ rfl (kset_six HK.out.res _ _ _ _ _ _) Tryz.underlying32 rfl key_size) rfl ?_
              exact HK.out.done hKl ((HK.out.kids _ List.mem_cons_self).keep (Nat.le_refl _) (fun _ _ _ => rfl) (fun j hj _ => hj.1)) HRR.out
          | cons y rest =>
            have hl1 : ((x :: y :: rest).length : Int) ≠ 1 := by simp only [List.length_cons]; omega
            have hl2 : (((x :: y :: rest).length : Int) == 1) = false := by rw [beq_eq_false_iff_ne]; exact hl1
            obtain ⟨L, hL⟩ : ∃ L, (x :: y :: rest).length = L := ⟨_, rfl⟩
            rw [hL] at hl1 hl2 ⊢
            have HLL := Lib.hid hL
            clear hL c0 c1
            go_wp2_with fail
            refine bodyPost_ret (results_cell_row (P := Tryz.prog) rfl _ _ w.heap.size _ _ _ _ rfl (kset_six HK.out.res _ _ _ _ _ _) Tryz.underlying32 rfl key_size) rfl ?_
            refine HK.out.done hKl ?_ HRR.out
            have hrow := keyC_row (ok := fun j => w.heap.size < j) (code := 15) HK.out.own (fun g hg => (HK.out.own.lt g hg).1) (fun z hz => (HK.out.kids z hz).keep (Nat.le_refl _) (fun _ _ _ => rfl) (fun j hj _ => hj.1)) (by decide)
            rw [HLL.out] at hrow
            exact hrow
end Go.Proofs.YtcahhnjponeeeaaGreatDoor
namespace Go.Proofs.YtcahhnjponeeeaaGreatDoor
open Go.RowKit Go.Shelf Go.Sort
set_option linter.unusedSimpArgs false
theorem results_cell_tmp {P : Program} {fn : Func} {p t : Tmp} {ty : TypeId} (h : fn.results = #[.cell p ty, .tmp t]) (tmps : Array Value) (w : World) (g : Nat) (T : TypeId) (cs : Array Value) (fr : Nat × Nat) (d : TypeDesc) (v : Value)
    (hp : tmps.getD p undef = .pointer (some ⟨g, 0, none⟩)) (hg : w.heap[g]? = some (.cells cs T fr)) (hv : tmps.getD t undef = v)
    (hu : P.underlying ty = some d) (hd : (match d with | .struct _ | .array _ _ => true | _ => false) = true) (hi : (P.info? ty).map (·.size) = some cs.size) :
    (results fn tmps).run P w = .ok (.tuple #[.agg cs, v]) w := by
  have hp' : tmps[p]?.getD undef = .pointer (some ⟨g, 0, none⟩) := by simpa using hp
  have hv' : tmps[t]?.getD undef = v := by simpa using hv
  simp [results, h, hp', hv', asAddr, run_loadVar_row w g T ty cs fr d hg hu hd hi]
/-- what holds in key: the reader, the words that are left, the result's block -/
structure KyR (w : World) (B K : Nat) (n e : Int) (v : Value) (l : List Wd) (wr : World) : Prop where
  ks : KsC wr K n e
  words : WordsL wr (fun j => j < B) v l
  res : wr.heap[w.heap.size]? = some (.cells zero6 32 (0, 0))
  kept : Kept (fun j => j = K) w wr
theorem KyR.next {w wr w' : World} {B K : Nat} {n e n' e' : Int} {v v' : Value} {l l' : List Wd} (h : KyR w B K n e v l wr) (hk : Kept (fun j => j = K) wr w') (hs : KsC w' K n' e') (hw : WordsL w' (fun j => j < B) v' l') : KyR w B K n' e' v' l' w' :=
  ⟨hs, hw, hk.obj h.res (ks_ne h.ks h.res (by decide)), h.kept.trans hk⟩
theorem KyR.under {w wr w' : World} {B K : Nat} {n e : Int} {v : Value} {l : List Wd} (h : KyR w B K n e v l wr) (hb : Below wr.heap.size wr w') : KyR w B K n e v l w' :=
  ⟨below_same hb h.ks, h.words.under hb, below_same hb h.res, h.kept.trans (kept_below hb)⟩
/-- a key and the words that are left, as key's result -/
theorem KyR.done {w wr : World} {B K : Nat} {n e : Int} {v : Value} {l : List Wd} (h : KyR w B K n e v l wr) (hK : K < w.heap.size) (hBK : B ≤ K) {a b c d e1 f : Value} {k : KeyP} {e0 : Int} {r : KeyE} {ax : Option Addr} {cx : Nat} {lx : List Wd} (hk : KeyC wr (fun j => w.heap.size < j) [a, b, c, d, e1, f] k) (hlx : WordsL wr (fun j => j < B) (.slice ax lx.length cx) lx)
    (hr : e0 = 0 → match r with | .ok (k0, l0, n0) => k = k0 ∧ lx = l0 ∧ n = (n0 : Int) ∧ e = 0 | .error E => e = (E : Int) ∧ 0 < E) (hr2 : e0 ≠ 0 → e = e0) {ac : Act} (h6 : ac.tmps.getD 6 undef = .pointer (some ⟨w.heap.size, 0, none⟩)) (h7 : ac.tmps.getD 7 undef = .slice ax lx.length cx) (hd : ac.defers = []) :
    bodyPost Tryz.prog Tryz.f45 (RKS B K r e0 w) Exit.ret ac ((((((wr.setCell ⟨w.heap.size, 0, none⟩ a).setCell ⟨w.heap.size, 1, none⟩ b).setCell ⟨w.heap.size, 2, none⟩ c).setCell ⟨w.heap.size, 3, none⟩ d).setCell ⟨w.heap.size, 4, none⟩ e1).setCell ⟨w.heap.size, 5, none⟩ f) := by
  obtain ⟨tm, df⟩ := ac
  obtain rfl : df = [] := hd
  refine bodyPost_ret (results_cell_tmp (P := Tryz.prog) rfl _ _ w.heap.size _ _ _ _ _ h6 (kset_six h.res _ _ _ _ _ _) h7 Tryz.underlying32 rfl key_size) rfl ?_
  exact ⟨[a, b, c, d, e1, f], k, ax, cx, lx, n, e, rfl, Lib.hid (hk.keep (by rw [ksix_size]; exact Nat.le_refl _) (fun j hj _ => ksix_heap _ _ _ _ _ _ _ _ (by omega)) (fun j hj _ => Nat.le_of_lt hj)), Lib.hid (hlx.keep (by rw [ksix_size]; exact Nat.le_refl _) (fun j hj _ => ksix_heap _ _ _ _ _ _ _ _ (by omega)) (fun _ hj _ => hj)), Lib.hid ((ksix_heap _ _ _ _ _ _ _ _ (by omega)).trans h.ks), Lib.hid (ksix_kept h.kept (Nat.le_refl _) _ _ _ _ _ _), Lib.hid hr, Lib.hid hr2⟩
/-- key begins: its result's block, one more is begun -/
theorem kyR_start {w : World} {B K : Nat} {n e : Int} {v : Value} {l : List Wd} (h : KsC w K n e) (hw : WordsL w (fun j => j < B) v l) (hB : B ≤ K) (n1 : Int) : KyR w B K n1 e v l ((w.setCell ⟨K, 0, none⟩ (.int .i64 n1)).alloc (.cells zero6 32)) := by
  have hKl : K < w.heap.size := (Array.getElem?_eq_some_iff.1 h).1
  have s1 := set_size w ⟨K, 0, none⟩ (.int .i64 n1)
  have y : Below (w.setCell ⟨K, 0, none⟩ (.int .i64 n1)).heap.size (w.setCell ⟨K, 0, none⟩ (.int .i64 n1)) ((w.setCell ⟨K, 0, none⟩ (.int .i64 n1)).alloc (.cells zero6 32)) := (Below.refl _ _).alloc (Nat.le_refl _) _
  have k1 : Kept (fun j => j = K) w (w.setCell ⟨K, 0, none⟩ (.int .i64 n1)) := (show Kept (fun j => j = K) w w from Kept.refl _ _).set (p := ⟨K, 0, none⟩) (fun _ => rfl) _
  have r := World.heap_alloc_new (w.setCell ⟨K, 0, none⟩ (.int .i64 n1)) (.cells zero6 32)
  rw [s1] at r
  exact ⟨below_same y (set2_0 h), (hw.kept k1 (fun j hj e => by have : j = K := e; omega)).under y, r, k1.trans (kept_below y)⟩
set_option linter.constructorNameAsVariable false in
set_option maxRecDepth 100000 in
set_option maxHeartbeats 16000000 in
/-- where something was wrong before, nothing is read -/
theorem rkey_off (r : KeyE) (D B K : Nat) (hD : D ≤ 7) (n e : Int) (a : Option Addr) (c : Nat) (l : List Wd) (w : World) (h : KsC w K n e) (hw : WordsL w (fun j => j < B) (.slice a l.length c) l) (hB : B ≤ K) (he : e ≠ 0) :
    Calls Tryz.prog 45 #[.pointer (some ⟨K, 0, none⟩), .slice a l.length c, .int .i64 (D : Int)] w (RKS B K r e w) := by
  have hKl : K < w.heap.size := (Array.getElem?_eq_some_iff.1 h).1
  obtain ⟨n1, hn1⟩ : ∃ n1, IntKind.i64.wrap (n + 1) = n1 := ⟨_, rfl⟩
  have hst := kyR_start h hw hB n1
  obtain ⟨c0, c1⟩ := two_cellsK (below_same ((Below.refl _ w).alloc (Nat.le_refl _) (.cells zero6 32)) h)
  have fz := Lib.frozen_of_heap (below_same ((Below.refl _ w).alloc (Nat.le_refl _) (.cells zero6 32)) h)
  have he1 : (e == 0) = false := by rw [beq_eq_false_iff_ne]; exact he
  have he2 : decide (e = 0) = false := decide_eq_false he
  have he3 : (e != 0) = true := by rw [bne_iff_ne]; exact he
  go_enter Tryz.func45, Tryz.ntmps45
  go_upto_region 2 with fail
  obtain ⟨w1, hw1⟩ : ∃ w1, (w.setCell ⟨K, 0, none⟩ (.int .i64 n1)).alloc (.cells #[.int .i64 0, .string ⟨#[]⟩, .string ⟨#[]⟩, .int .i64 0, .slice none 0 0, .slice none 0 0] 32) = w1 := ⟨_, rfl⟩
  rw [hw1]
  have hst : KyR w B K n1 e (.slice a l.length c) l w1 := hw1 ▸ hst
  clear hw1 c0 c1 fz hn1
  obtain ⟨c0, c1⟩ := two_cellsK hst.ks
  have cF := kfails_any K n1 e 4 w1 hst.ks
  have hfl : faultK 4 e = e := by unfold faultK; rw [if_neg he]
  rw [hfl] at cF
  obtain ⟨r0, r1, r2, r3, r4, r5⟩ := ksix_cells hst.res
  have fz := Lib.frozen_of_heap hst.res
  by_cases hl : (60 : Int) < n1 ∨ (6 : Int) < (D : Int)
  · clear r0 r1 r2 r3 r4 r5 fz
    go_wp2_with ((go_at_call 69; (((with_reducible refine cF.mono ?_); rintro e4 w2 ⟨rfl, hc2, hk2⟩; have HS := hst.next hk2 hc2 (hst.words.kept hk2 (fun j hj e => by have : j = K := e; omega)); obtain ⟨d0, d1⟩ := two_cellsK HS.ks; obtain ⟨r0, r1, r2, r3, r4, r5⟩ := ksix_cells HS.res; have fz := Lib.frozen_of_heap HS.res))))
    all_goals
      exact HS.done hKl hB (ax := none) (cx := 0) (lx := []) (k := .mk 0 [] [] 0 [] []) (keyC_leaf _ _ 0 [] [] 0 (by decide) (by decide)) (wordsL_nil _ _) (fun h => absurd h he) (fun _ => rfl) rfl rfl rfl
  · have h1 : ¬ (60 : Int) < n1 := fun h => hl (Or.inl h)
    have h2 : ¬ (6 : Int) < (D : Int) := fun h => hl (Or.inr h)
    clear hl
    go_wp2_with fail
    exact hst.done hKl hB (ax := none) (cx := 0) (lx := []) (k := .mk 0 [] [] 0 [] []) (keyC_leaf _ _ 0 [] [] 0 (by decide) (by decide)) (wordsL_nil _ _) (fun h => absurd h he) (fun _ => rfl) rfl rfl rfl
end Go.Proofs.YtcahhnjponeeeaaGreatDoor
namespace Go.Proofs.YtcahhnjponeeeaaGreatDoor
open Go.RowKit Go.Shelf Go.Sort
set_option linter.unusedSimpArgs false
/-- what a list brings, and what is left behind it -/
def listR (x : Except Nat (KeyP × Nat)) (l : List Wd) : KeyE := match x with
  | .error e => .error e
  | .ok (k, n') => .ok (k, l, n')
theorem list_rel {x : Except Nat (KeyP × Nat)} {l : List Wd} {k : KeyP} {n e : Int} (h : match x with | .ok (k0, n0) => k = k0 ∧ n = (n0 : Int) ∧ e = 0 | .error E => e = (E : Int) ∧ 0 < E) : match listR x l with | .ok (k0, l0, n0) => k = k0 ∧ l = l0 ∧ n = (n0 : Int) ∧ e = 0 | .error E => e = (E : Int) ∧ 0 < E := by
  cases x with
  | error E => exact h
  | ok y => obtain ⟨k0, n0⟩ := y; exact ⟨h.1, rfl, h.2.1, h.2.2⟩
set_option linter.constructorNameAsVariable false in
set_option maxRecDepth 100000 in
set_option maxHeartbeats 16000000 in
/-- too many, or too deep -/
theorem rkey_lim (D B K m : Nat) (hD : D ≤ 7) (hm : m ≤ 60) (a : Option Addr) (c : Nat) (l : List Wd) (w : World) (h : KsC w K (m : Int) 0) (hw : WordsL w (fun j => j < B) (.slice a l.length c) l) (hB : B ≤ K) (hl : (60 : Int) < (m : Int) + 1 ∨ (6 : Int) < (D : Int)) :
    Calls Tryz.prog 45 #[.pointer (some ⟨K, 0, none⟩), .slice a l.length c, .int .i64 (D : Int)] w (RKS B K (.error 4) 0 w) := by
  have hKl : K < w.heap.size := (Array.getElem?_eq_some_iff.1 h).1
  have hst := kyR_start h hw hB ((m : Int) + 1)
  obtain ⟨c0, c1⟩ := two_cellsK (below_same ((Below.refl _ w).alloc (Nat.le_refl _) (.cells zero6 32)) h)
  have fz := Lib.frozen_of_heap (below_same ((Below.refl _ w).alloc (Nat.le_refl _) (.cells zero6 32)) h)
  go_enter Tryz.func45, Tryz.ntmps45
  go_upto_region 2 with fail
  obtain ⟨w1, hw1⟩ : ∃ w1, (w.setCell ⟨K, 0, none⟩ (.int .i64 ((m : Int) + 1))).alloc (.cells #[.int .i64 0, .string ⟨#[]⟩, .string ⟨#[]⟩, .int .i64 0, .slice none 0 0, .slice none 0 0] 32) = w1 := ⟨_, rfl⟩
  rw [hw1]
  have hst : KyR w B K ((m : Int) + 1) 0 (.slice a l.length c) l w1 := hw1 ▸ hst
  clear hw1 c0 c1 fz
  obtain ⟨c0, c1⟩ := two_cellsK hst.ks
  have cF := kfails_any K ((m : Int) + 1) 0 4 w1 hst.ks
  rw [show faultK 4 0 = 4 from rfl] at cF
  go_wp2_with ((go_at_call 69; (((with_reducible refine cF.mono ?_); rintro e4 w2 ⟨rfl, hc2, hk2⟩; have HS := hst.next hk2 hc2 (hst.words.kept hk2 (fun j hj e => by have : j = K := e; omega)); obtain ⟨d0, d1⟩ := two_cellsK HS.ks; obtain ⟨r0, r1, r2, r3, r4, r5⟩ := ksix_cells HS.res; have fz := Lib.frozen_of_heap HS.res))))
  all_goals
    exact HS.done (r := .error 4) (e0 := 0) hKl hB (ax := none) (cx := 0) (lx := []) (k := .mk 0 [] [] 0 [] []) (keyC_leaf _ _ 0 [] [] 0 (by decide) (by decide)) (wordsL_nil _ _) (fun _ => ⟨rfl, by decide⟩) (fun h => absurd rfl h) rfl rfl rfl
set_option linter.constructorNameAsVariable false in
set_option maxRecDepth 100000 in
set_option maxHeartbeats 16000000 in
/-- no word is left -/
theorem rkey_nil (D B K m : Nat) (hD : D ≤ 7) (hm : m ≤ 60) (a : Option Addr) (c : Nat) (w : World) (h : KsC w K (m : Int) 0) (hw : WordsL w (fun j => j < B) (.slice a ([] : List Wd).length c) []) (hB : B ≤ K) (h60 : m + 1 ≤ 60) (h6 : D ≤ 6) :
    Calls Tryz.prog 45 #[.pointer (some ⟨K, 0, none⟩), .slice a ([] : List Wd).length c, .int .i64 (D : Int)] w (RKS B K (.error 3) 0 w) := by
  have hKl : K < w.heap.size := (Array.getElem?_eq_some_iff.1 h).1
  have hst := kyR_start h hw hB ((m : Int) + 1)
  obtain ⟨c0, c1⟩ := two_cellsK (below_same ((Below.refl _ w).alloc (Nat.le_refl _) (.cells zero6 32)) h)
  have fz := Lib.frozen_of_heap (below_same ((Below.refl _ w).alloc (Nat.le_refl _) (.cells zero6 32)) h)
  go_enter Tryz.func45, Tryz.ntmps45
  go_upto_region 2 with fail
  obtain ⟨w1, hw1⟩ : ∃ w1, (w.setCell ⟨K, 0, none⟩ (.int .i64 ((m : Int) + 1))).alloc (.cells #[.int .i64 0, .string ⟨#[]⟩, .string ⟨#[]⟩, .int .i64 0, .slice none 0 0, .slice none 0 0] 32) = w1 := ⟨_, rfl⟩
  rw [hw1]
  have hst : KyR w B K ((m : Int) + 1) 0 (.slice a ([] : List Wd).length c) [] w1 := hw1 ▸ hst
  clear hw1 c0 c1 fz
  obtain ⟨c0, c1⟩ := two_cellsK hst.ks
  have h1 : ¬ (60 : Int) < (m : Int) + 1 := by omega
  have h2 : ¬ (6 : Int) < (D : Int) := by omega
  have cW := kword_any K B ((m : Int) + 1) 0 a c [] w1 hst.ks hst.words hB
  have cW : Calls Tryz.prog 70 #[.pointer (some ⟨K, 0, none⟩), .slice a 0 c] w1 fun x w' => ∃ (a2 : Option Addr) (c2 : Nat), x = .returned (.tuple #[.string ⟨#[]⟩, .slice a2 0 c2]) ∧ Hid (KyR w B K ((m : Int) + 1) 3 (.slice a2 0 c2) [] w') := cW.mono (by
    rintro x w' ⟨s, a2, c2, l', e', rfl, hs, hwd, hks, hkk, hd⟩
    rcases hd.out with ⟨h, _⟩ | ⟨_, rfl, rfl, rfl⟩
    · cases h
    · exact ⟨a2, c2, rfl, hst.next hkk.out hks.out hwd.out⟩)
  go_wp2_with ((go_at_call 70; (((with_reducible refine cW.mono ?_); rintro e4 w2 ⟨a2, c2, rfl, HS⟩; obtain ⟨d0, d1⟩ := two_cellsK HS.out.ks; obtain ⟨r0, r1, r2, r3, r4, r5⟩ := ksix_cells HS.out.res; have fz := Lib.frozen_of_heap HS.out.res))))
  exact HS.out.done (r := .error 3) (e0 := 0) hKl hB (ax := none) (cx := 0) (lx := []) (k := .mk 0 [] [] 0 [] []) (keyC_leaf _ _ 0 [] [] 0 (by decide) (by decide)) (wordsL_nil _ _) (fun _ => ⟨rfl, by decide⟩) (fun h => absurd rfl h) rfl rfl rfl
set_option linter.constructorNameAsVariable false in
set_option maxRecDepth 100000 in
set_option maxHeartbeats 16000000 in
/-- a list -/
theorem rkey_list (D B K m : Nat) (hD : D ≤ 7) (hm : m ≤ 60) (a : Option Addr) (c : Nat) (t : Wd) (l : List Wd) (w : World) (h : KsC w K (m : Int) 0) (hw : WordsL w (fun j => j < B) (.slice a (t :: l).length c) (t :: l)) (hB : B ≤ K) (h60 : m + 1 ≤ 60) (h6 : D ≤ 6) (hk : t.kind = 3) (d : Nat) (IH : KeySpec d (D + 1)) (hG : GW K w) :
    Calls Tryz.prog 45 #[.pointer (some ⟨K, 0, none⟩), .slice a (t :: l).length c, .int .i64 (D : Int)] w (RKS B K (listR (keysK (keyK d) t.list (m + 1)) l) 0 w) := by
  have hKl : K < w.heap.size := (Array.getElem?_eq_some_iff.1 h).1
  have hst := kyR_start h hw hB ((m : Int) + 1)
  obtain ⟨c0, c1⟩ := two_cellsK (below_same ((Below.refl _ w).alloc (Nat.le_refl _) (.cells zero6 32)) h)
  have fz := Lib.frozen_of_heap (below_same ((Below.refl _ w).alloc (Nat.le_refl _) (.cells zero6 32)) h)
  go_enter Tryz.func45, Tryz.ntmps45
  go_upto_region 2 with fail
  obtain ⟨w1, hw1⟩ : ∃ w1, (w.setCell ⟨K, 0, none⟩ (.int .i64 ((m : Int) + 1))).alloc (.cells #[.int .i64 0, .string ⟨#[]⟩, .string ⟨#[]⟩, .int .i64 0, .slice none 0 0, .slice none 0 0] 32) = w1 := ⟨_, rfl⟩
  rw [hw1]
  have hst : KyR w B K ((m : Int) + 1) 0 (.slice a (t :: l).length c) (t :: l) w1 := hw1 ▸ hst
  clear hw1 c0 c1 fz
  obtain ⟨c0, c1⟩ := two_cellsK hst.ks
  obtain ⟨g, off, va, vc, rfl, -, hc1, hc2, hg, x0, x1, x2, ht, hl1, hl2⟩ := hst.words.cons
  have h1 : ¬ (60 : Int) < (m : Int) + 1 := by omega
  have h2 : ¬ (6 : Int) < (D : Int) := by omega
  rw [hk] at x0
  have hD1 : IntKind.i64.wrap ((D : Int) + 1) = (D : Int) + 1 := IntWalk.i64_in _ (by omega)
  have yd : Below w1.heap.size w1 w1.drew := (Below.refl _ _).drew
  have HST := Lib.hid (hst.under yd)
  have cA := rall_any d (D + 1) (by omega) IH B K (m + 1) va vc t.list w1.drew (below_same yd hst.ks) h60 (hl1.under yd) hB ((hG.next hst.kept).next (kept_below yd))
  have cA : Calls Tryz.prog 14 #[.pointer (some ⟨K, 0, none⟩), .slice va t.list.length vc, .int .i64 ((D : Int) + 1)] w1.drew fun x w' => ∃ (code : Int) (name text : List UInt8) (kn : Int) (set : List Rg) (keys : List KeyP) (sa ka : Option Addr) (sc kc : Nat) (k : KeyP) (n' e' : Int), x = .returned (.agg #[.int .i64 code, .string ⟨name.toArray⟩, .string ⟨text.toArray⟩, .int .i64 kn, .slice sa set.length sc, .slice ka keys.length kc]) ∧ Hid (KeyC w' (fun j => w.heap.size < j) [.int .i64 code, .string ⟨name.toArray⟩, .string ⟨text.toArray⟩, .int .i64 kn, .slice sa set.length sc, .slice ka keys.length kc] k) ∧ Hid (KsC w' K n' e') ∧ Hid (Kept (fun j => j = K) w1.drew w') ∧ Hid (match keysK (keyK d) t.list (m + 1) with | .ok (k0, n0) => k = k0 ∧ n' = (n0 : Int) ∧ e' = 0 | .error E => e' = (E : Int) ∧ 0 < E) := cA.mono (by
    rintro x w' ⟨cs, k, n', e', rfl, hkc, hks, hkk, hr⟩
    obtain ⟨code, name, text, kn, set, keys, sa, ka, sc, kc, rfl⟩ := hkc.out.six
    have hlt : w.heap.size < w1.heap.size := (Array.getElem?_eq_some_iff.1 hst.res).1
    exact ⟨code, name, text, kn, set, keys, sa, ka, sc, kc, k, n', e', rfl, hkc.out.keep (Nat.le_refl _) (fun _ _ _ => rfl) (fun j hj _ => Nat.lt_of_lt_of_le hlt hj), hks, hkk, hr⟩)
  have HL2 := Lib.hid (hl2.under yd)
  have HH := Lib.hid h
  clear hl1 hl2 x1 ht hst h hw hk
  go_upto_region 7 with fail
  by_cases h0 : c = 1
  · obtain rfl : c = 1 := h0
    obtain rfl : l = [] := List.eq_nil_of_length_eq_zero (by omega)
    go_region_with ((go_at_call 14; (((with_reducible refine cA.mono ?_); rintro e4 w2 ⟨code, name, text, kn, set, keys, sa, ka, sc, kc, k, n', e', rfl, hkc, hks, hkk, hr⟩; have HS := HST.out.next hkk.out hks.out (HST.out.words.kept hkk.out (fun j hj e => by have : j = K := e; omega)); obtain ⟨r0, r1, r2, r3, r4, r5⟩ := ksix_cells HS.res; have fz := Lib.frozen_of_heap HS.res))))
    all_goals
      go_wp2_with fail
      exact HS.done (r := listR (keysK (keyK d) t.list (m + 1)) []) (e0 := 0) hKl hB hkc.out (lx := []) (wordsL_none (l := []) (by decide) (by decide)) (fun _ => list_rel hr.out) (fun h => absurd rfl h) rfl rfl rfl
  · have hcz : (1 : Int) < (c : Int) := by omega
    go_region_with ((go_at_call 14; (((with_reducible refine cA.mono ?_); rintro e4 w2 ⟨code, name, text, kn, set, keys, sa, ka, sc, kc, k, n', e', rfl, hkc, hks, hkk, hr⟩; have HS := HST.out.next hkk.out hks.out (HST.out.words.kept hkk.out (fun j hj e => by have : j = K := e; omega)); obtain ⟨r0, r1, r2, r3, r4, r5⟩ := ksix_cells HS.res; have fz := Lib.frozen_of_heap HS.res))))
    all_goals
      go_wp2_with fail
      exact HS.done (r := listR (keysK (keyK d) t.list (m + 1)) l) (e0 := 0) hKl hB hkc.out (lx := l) (HL2.out.kept hkk.out (fun j hj e => by have : j = K := e; omega)) (fun _ => list_rel hr.out) (fun h => absurd rfl h) rfl rfl rfl
end Go.Proofs.YtcahhnjponeeeaaGreatDoor
