/- letterboxref.Fine, as the program's text lays it. No condition beyond those each names. A byte of a text, as a list has it. No program here. The walks over the small parts of the reference's reader of commands: ok, fails, see, wordy, gap. Conditions: letterboxref.Fine lies as the program's text lays it. The walk over the reference's in. No condition beyond those it names. The walks over the reference's wordy, gap, word. Conditions: letterboxref.Fine lies as the program's text lays it. The walk over the reference's word: what it brings is no longer than the text, and it goes on or fails. Conditions: letterboxref.Fine lies as the program's text lays it. The walk over the reference's quoted: what it brings is no longer than the text, and it goes on. Conditions: letterboxref.Fine lies as the program's text lays it. -/
import Derived.Test.YtcahhnjponeeeaaGreatDoorRows
import Derived.Deep.QuietTactic
import Derived.BigQuiet
import Derived.Deep.RegionHeld3
import Derived.Deep.DeepCutAuto
import Derived.Laws.IdiomStrings
import Derived.Test.YtcahhnjponeeeaaGreatDoorPkShelf
import Derived.Test.YtcahhnjponeeeaaGreatDoorPkKit2
import Derived.Test.YtcahhnjponeeeaaGreatDoorPkText
import Derived.Test.YtcahhnjponeeeaaGreatDoorPkKept
namespace Go.Proofs.YtcahhnjponeeeaaGreatDoor
open Go.RowKit
def FineG (w : World) : Prop := w.cell? ⟨0, 0, none⟩ = some (.int .i64 0) ∧ w.cell? ⟨0, 1, none⟩ = some (.int .i64 (-1))
theorem FineG.below {w w' : World} (h : FineG w) (hb : Below w.heap.size w w') : FineG w' := by
  have hlt : 0 < w.heap.size := by
    rcases Nat.lt_or_ge 0 w.heap.size with h' | h'
    · exact h'
    · have := h.1
      simp [World.cell?, Array.getElem?_eq_none h'] at this
  exact ⟨(hb.cell (p := ⟨_, 0, none⟩) hlt).trans h.1, (hb.cell (p := ⟨_, 1, none⟩) hlt).trans h.2⟩
end Go.Proofs.YtcahhnjponeeeaaGreatDoor
namespace Go.Proofs.YtcahhnjponeeeaaGreatDoor
theorem byte_at {S : List UInt8} {a : Nat} {c : UInt8} (h : S[a]? = some c) (hl : a < (⟨S.toArray⟩ : ByteArray).size) : (⟨S.toArray⟩ : ByteArray)[a]'hl = c := by
  obtain ⟨h1, rfl⟩ := List.getElem?_eq_some_iff.1 h
  rfl
end Go.Proofs.YtcahhnjponeeeaaGreatDoor
namespace Go.Proofs.YtcahhnjponeeeaaGreatDoor
open Go.RowKit Go.Shelf Go.Sort
set_option linter.unusedSimpArgs false
theorem drewN_two (w : World) (a b : Nat) : (w.drewN a).drewN b = w.drewN (a + b) := by
  simp [World.drewN, Nat.add_assoc]
theorem kresults_noneC {P : Program} {fn : Func} (h : fn.results = #[]) (tmps : Array Value) (w : World) : (results fn tmps).run P w = .ok (.tuple #[]) w := by
  simp [results, h, go_sem]
/-- a command that is read: its text, where it is, how many parts, the first thing that was wrong -/
def CmdC (w : World) (C : Nat) (S : List UInt8) (k n : Nat) (e p : Int) : Prop := w.heap[C]? = some (.cells #[.string ⟨S.toArray⟩, .int .i64 (k : Int), .int .i64 (n : Int), .int .i64 e, .int .i64 p] 88 (0, 0))
theorem five_cellsC {w : World} {C : Nat} {a b c d e : Value} {T : TypeId} (h : w.heap[C]? = some (.cells #[a, b, c, d, e] T (0, 0))) : w.cell? ⟨C, 0, none⟩ = some a ∧ w.cell? ⟨C, 1, none⟩ = some b ∧ w.cell? ⟨C, 2, none⟩ = some c ∧ w.cell? ⟨C, 3, none⟩ = some d ∧ w.cell? ⟨C, 4, none⟩ = some e := by
  refine ⟨?_, ?_, ?_, ?_, ?_⟩ <;> (rw [Lib.cell_of_heap h]; rfl)
def okC (e p : Int) : Bool := decide (e = 0) && decide (p = -1)
set_option maxRecDepth 100000 in
set_option maxHeartbeats 2000000 in
theorem okC_any (C : Nat) (S : List UInt8) (k n : Nat) (e p : Int) (w : World) (h : CmdC w C S k n e p) (hF : FineG w) :
    Calls Tryz.prog 40 #[.pointer (some ⟨C, 0, none⟩)] w fun x w' => x = .returned (.bool (okC e p)) ∧ ∃ m, w' = w.drewN m := by
  obtain ⟨c0, c1, c2, c3, c4⟩ := five_cellsC h
  obtain ⟨f0, f1⟩ := hF
  unfold okC
  by_cases he : e = 0
  · by_cases hp : p = -1
    · subst he hp
      go_enter Tryz.func40, Tryz.ntmps40
      go_wp2_with fail
      go_region
      all_goals
        go_wp2_with fail
        go_ret
        exact ⟨rfl, 1, rfl⟩
    · rw [decide_eq_false hp, Bool.and_false]
      subst he
      go_enter Tryz.func40, Tryz.ntmps40
      go_wp2_with fail
      go_region
      all_goals
        go_wp2_with fail
        go_ret
        exact ⟨rfl, 1, rfl⟩
  · rw [decide_eq_false he, Bool.false_and]
    go_enter Tryz.func40, Tryz.ntmps40
    go_wp2_with fail
    go_region
    all_goals
      go_wp2_with fail
      go_ret
      exact ⟨rfl, 1, rfl⟩
theorem CmdC.below {w w' : World} {C : Nat} {S : List UInt8} {k n : Nat} {e p : Int} (h : CmdC w C S k n e p) (hb : Below w.heap.size w w') : CmdC w' C S k n e p := below_same hb h
theorem set5_1 {w : World} {C : Nat} {a b c d e x : Value} {T : TypeId} (h : w.heap[C]? = some (.cells #[a, b, c, d, e] T (0, 0))) : (w.setCell ⟨C, 1, none⟩ x).heap[C]? = some (.cells #[a, x, c, d, e] T (0, 0)) := by
  simp only [World.setCell, Array.getElem?_modify, if_pos, h]
  simp
theorem set5_2 {w : World} {C : Nat} {a b c d e x : Value} {T : TypeId} (h : w.heap[C]? = some (.cells #[a, b, c, d, e] T (0, 0))) : (w.setCell ⟨C, 2, none⟩ x).heap[C]? = some (.cells #[a, b, x, d, e] T (0, 0)) := by
  simp only [World.setCell, Array.getElem?_modify, if_pos, h]
  simp
theorem set5_34 {w : World} {C : Nat} {a b c d e x y : Value} {T : TypeId} (h : w.heap[C]? = some (.cells #[a, b, c, d, e] T (0, 0))) : ((w.setCell ⟨C, 3, none⟩ x).setCell ⟨C, 4, none⟩ y).heap[C]? = some (.cells #[a, b, c, x, y] T (0, 0)) := by
  simp only [World.setCell, Array.getElem?_modify, if_pos, h]
  simp
/-- what it is to fail: it is noted, where nothing was wrong before -/
def failE (E : Int) (e p : Int) : Int := if okC e p then E else e
def failP (k : Nat) (e p : Int) : Int := if okC e p then (k : Int) else p
set_option maxRecDepth 100000 in
set_option maxHeartbeats 2000000 in
theorem failC_any (C : Nat) (S : List UInt8) (k n : Nat) (e p E : Int) (w : World) (h : CmdC w C S k n e p) (hF : FineG w) :
    Calls Tryz.prog 44 #[.pointer (some ⟨C, 0, none⟩), .int .i64 E] w fun x w' => x = .returned (.tuple #[]) ∧ CmdC w' C S k n (failE E e p) (failP k e p) ∧ Kept (fun j => j = C) w w' := by
  have cO := okC_any C S k n e p w h hF
  have HC := Lib.hid h
  clear h
  unfold failE failP
  cases ho : okC e p with
  | false =>
    rw [ho] at cO
    clear ho
    go_enter Tryz.func44, Tryz.ntmps44
    go_wp2_with (go_at_call 40; go_loud (((with_reducible refine cO.mono ?_); rintro e w1 ⟨rfl, m, hw1⟩; have h1 : Below w.heap.size w w1 := hw1 ▸ below_drewN (Below.refl _ _) m; clear hw1)))
    exact ⟨rfl, _, kresults_noneC rfl _ _, rfl, HC.out.below h1, kept_below h1⟩
  | true =>
    rw [ho] at cO
    clear ho
    go_enter Tryz.func44, Tryz.ntmps44
    go_wp2_with (go_at_call 40; go_loud (((with_reducible refine cO.mono ?_); rintro e w1 ⟨rfl, m, hw1⟩; have h1 : Below w.heap.size w w1 := hw1 ▸ below_drewN (Below.refl _ _) m; clear hw1; have hc1 := HC.out.below h1; obtain ⟨c0, c1, c2, c3, c4⟩ := five_cellsC hc1; have fz := Lib.frozen_of_heap hc1)))
    have k1 : Kept (fun j => j = C) w w1 := kept_below h1
    exact ⟨rfl, _, kresults_noneC rfl _ _, rfl, set5_34 hc1, (k1.set (p := ⟨C, 3, none⟩) (fun _ => rfl) _).set (p := ⟨C, 4, none⟩) (fun _ => rfl) _⟩
/-- the next byte, if there is one and nothing was wrong -/
def seeB (S : List UInt8) (k : Nat) (e p : Int) : Option UInt8 := if okC e p ∧ k + 2 < S.length then S[k]? else none
def seeV (o : Option UInt8) : Value := match o with
  | some b => .tuple #[.int .u8 (b.toNat : Int), .bool true]
  | none => .tuple #[.int .u8 0, .bool false]
theorem seeB_some {S : List UInt8} {k : Nat} {e p : Int} {b : UInt8} (h : seeB S k e p = some b) : okC e p = true ∧ k + 2 < S.length ∧ S[k]? = some b := by
  unfold seeB at h
  split at h
  · rename_i hc; exact ⟨hc.1, hc.2, h⟩
  · cases h
set_option maxRecDepth 100000 in
set_option maxHeartbeats 2000000 in
theorem seeC_any (C : Nat) (S : List UInt8) (k n : Nat) (e p : Int) (w : World) (h : CmdC w C S k n e p) (hF : FineG w) (hS : S.length ≤ 1000000) (hk : k ≤ 1000000) :
    Calls Tryz.prog 65 #[.pointer (some ⟨C, 0, none⟩)] w fun x w' => x = .returned (seeV (seeB S k e p)) ∧ ∃ m, w' = w.drewN m := by
  have cO := fun W (h : CmdC W C S k n e p) (hF : FineG W) => okC_any C S k n e p W h hF
  have hq : ∀ q, CmdC (w.drewN q) C S k n e p ∧ FineG (w.drewN q) := fun q => ⟨h, hF⟩
  obtain ⟨c0, c1, c2, c3, c4⟩ := five_cellsC h
  have HQ := Lib.hid hq
  have ts := text_size S
  have hw : IntKind.i64.wrap ((S.length : Int) - 2) = (S.length : Int) - 2 := IntWalk.i64_in _ (by omega)
  clear h hF hq
  unfold seeB
  cases ho : okC e p with
  | false =>
    rw [ho] at cO
    rw [if_neg (by simp)]
    clear ho
    go_enter Tryz.func65, Tryz.ntmps65
    go_wp2_with fail
    go_quiet ((go_at_call 40; exact Calls.quiet_of (cO _ (HQ.out _).1 (HQ.out _).2)))
    go_wp2_with fail
    go_ret2
    exact ⟨rfl, _, rfl⟩
  | true =>
    rw [ho] at cO
    clear ho
    by_cases hl : k + 2 < S.length
    · rw [if_pos ⟨rfl, hl⟩]
      obtain ⟨b, hb⟩ : ∃ b, S[k]? = some b := ⟨S[k]'(by omega), List.getElem?_eq_getElem (by omega)⟩
      have hx : ∀ h, (⟨S.toArray⟩ : ByteArray)[k]'h = b := Go.Proofs.YtcahhnjponeeeaaGreatDoor.byte_at hb
      have hz : ¬ ((S.length : Int) - 2 ≤ (k : Int)) := by omega
      have hkl : (k : Int) < (S.length : Int) := by omega
      rw [hb]
      clear hb
      go_enter Tryz.func65, Tryz.ntmps65
      go_wp2_with fail
      go_quiet ((go_at_call 40; exact Calls.quiet_of (cO _ (HQ.out _).1 (HQ.out _).2)))
      go_wp2_with fail
      go_quiet (fail)
      go_wp2_with fail
      go_ret2
      exact ⟨rfl, _, drewN_two _ _ _⟩
    · rw [if_neg (by intro h; exact hl h.2)]
      have hz : (S.length : Int) - 2 ≤ (k : Int) := by omega
      go_enter Tryz.func65, Tryz.ntmps65
      go_wp2_with fail
      go_quiet ((go_at_call 40; exact Calls.quiet_of (cO _ (HQ.out _).1 (HQ.out _).2)))
      go_wp2_with fail
      go_ret2
      exact ⟨rfl, _, rfl⟩
end Go.Proofs.YtcahhnjponeeeaaGreatDoor
namespace Go.Proofs.YtcahhnjponeeeaaGreatDoor
open Go.RowKit Go.Shelf
set_option maxHeartbeats 400000 in
theorem in_any (n lo hi : Int) (w : World) :
    Calls Tryz.prog 63 #[.int .i64 n, .int .i64 lo, .int .i64 hi] w fun e w' => e = .returned (.bool (decide (lo ≤ n) && decide (n ≤ hi))) ∧ w = w' := by
  by_cases h1 : lo ≤ n
  · by_cases h2 : n ≤ hi
    · simp only [h1, h2, decide_true, Bool.and_self]
      go_enter Tryz.func63, Tryz.ntmps63
      go_wp2_with fail
      go_ret
      exact ⟨rfl, rfl⟩
    · simp only [h1, h2, decide_true, decide_false, Bool.and_false]
      go_enter Tryz.func63, Tryz.ntmps63
      go_wp2_with fail
      go_ret
      exact ⟨rfl, rfl⟩
  · simp only [h1, decide_false, Bool.false_and]
    go_enter Tryz.func63, Tryz.ntmps63
    go_wp2_with fail
    go_ret
    exact ⟨rfl, rfl⟩
end Go.Proofs.YtcahhnjponeeeaaGreatDoor
namespace Go.Proofs.YtcahhnjponeeeaaGreatDoor
open Go.RowKit Go.Shelf Go.Sort
set_option linter.unusedSimpArgs false
set_option maxRecDepth 100000 in
set_option maxHeartbeats 4000000 in
theorem wordyC_any (b : UInt8) : ∃ r : Bool, ∀ w : World, Calls Tryz.prog 66 #[.int .u8 (b.toNat : Int)] w fun x w' => x = .returned (.bool r) ∧ w' = w := by
  have hb : b.toNat < 256 := UInt8.toNat_lt b
  have hw : IntKind.i64.wrap (b.toNat : Int) = (b.toNat : Int) := IntWalk.i64_in _ (by omega)
  have cI : ∀ w : World, Calls Tryz.prog 63 #[.int .i64 (b.toNat : Int), .int .i64 33, .int .i64 126] w fun e w' => e = .returned (.bool (decide ((33 : Int) ≤ (b.toNat : Int)) && decide ((b.toNat : Int) ≤ 126))) ∧ w = w' := fun w => in_any (b.toNat : Int) 33 126 w
  generalize (decide ((33 : Int) ≤ (b.toNat : Int)) && decide ((b.toNat : Int) ≤ 126)) = R at cI
  refine ⟨R && decide ((b.toNat : Int) ≠ 40) && decide ((b.toNat : Int) ≠ 41) && decide ((b.toNat : Int) ≠ 123) && decide ((b.toNat : Int) ≠ 34), fun w => ?_⟩
  have c1 := cI w
  clear cI
  cases R with
  | false =>
    go_enter Tryz.func66, Tryz.ntmps66
    go_wp2_with (go_at_call 63; go_loud (((with_reducible refine c1.mono ?_); rintro e w1 ⟨rfl, hw1⟩; rw [← hw1]; clear hw1)))
    go_ret
    exact ⟨by simp, rfl⟩
  | true =>
    by_cases h1 : (b.toNat : Int) = 40
    · rw [h1] at c1 ⊢
      go_enter Tryz.func66, Tryz.ntmps66
      go_wp2_with (go_at_call 63; go_loud (((with_reducible refine c1.mono ?_); rintro e w1 ⟨rfl, hw1⟩; rw [← hw1]; clear hw1)))
      go_ret
      exact ⟨rfl, rfl⟩
    by_cases h2 : (b.toNat : Int) = 41
    · rw [h2] at c1 ⊢
      go_enter Tryz.func66, Tryz.ntmps66
      go_wp2_with (go_at_call 63; go_loud (((with_reducible refine c1.mono ?_); rintro e w1 ⟨rfl, hw1⟩; rw [← hw1]; clear hw1)))
      go_ret
      exact ⟨rfl, rfl⟩
    by_cases h3 : (b.toNat : Int) = 123
    · rw [h3] at c1 ⊢
      go_enter Tryz.func66, Tryz.ntmps66
      go_wp2_with (go_at_call 63; go_loud (((with_reducible refine c1.mono ?_); rintro e w1 ⟨rfl, hw1⟩; rw [← hw1]; clear hw1)))
      go_ret
      exact ⟨rfl, rfl⟩
    have e1 : ((b.toNat : Int) == 40) = false := by rw [beq_eq_false_iff_ne]; exact h1
    have e2 : ((b.toNat : Int) == 41) = false := by rw [beq_eq_false_iff_ne]; exact h2
    have e3 : ((b.toNat : Int) == 123) = false := by rw [beq_eq_false_iff_ne]; exact h3
    rw [decide_eq_true h1, decide_eq_true h2, decide_eq_true h3]
    simp only [Bool.true_and]
    go_enter Tryz.func66, Tryz.ntmps66
    go_wp2_with (go_at_call 63; go_loud (((with_reducible refine c1.mono ?_); rintro e w1 ⟨rfl, hw1⟩; rw [← hw1]; clear hw1)))
    go_ret
    exact ⟨by by_cases h4 : (b.toNat : Int) = 34 <;> simp [h1, h2, h3, h4, bne, e1, e2, e3], rfl⟩
/-- what holds between the reader's steps: the fixed variable Fine, the command's block -/
structure CmdW (w0 : World) (C : Nat) (S : List UInt8) (k n : Nat) (e p : Int) (w : World) : Prop where
  base : Kept (fun j => j = C) w0 w
  cmd : CmdC w C S k n e p
  fine : FineG w
theorem CmdW.under {w0 w w' : World} {C : Nat} {S : List UInt8} {k n : Nat} {e p : Int} (h : CmdW w0 C S k n e p w) (hb : Below w.heap.size w w') : CmdW w0 C S k n e p w' :=
  ⟨h.base.trans (kept_below hb), h.cmd.below hb, h.fine.below hb⟩
theorem FineG.kept {w w' : World} {C : Nat} (h : FineG w) (hk : Kept (fun j => j = C) w w') (hC : 0 ≠ C) : FineG w' := by
  have hlt : 0 < w.heap.size := World.block_lt_of_cell? _ _ h.1
  exact ⟨(World.cell?_of_block (w := w) (a := ⟨_, 0, none⟩) (hk.block _ hlt hC)).trans h.1, (World.cell?_of_block (w := w) (a := ⟨_, 1, none⟩) (hk.block _ hlt hC)).trans h.2⟩
theorem CmdW.next {w0 w w' : World} {C : Nat} {S : List UInt8} {k n k' n' : Nat} {e p e' p' : Int} (h : CmdW w0 C S k n e p w) (hk : Kept (fun j => j = C) w w') (hc : CmdC w' C S k' n' e' p') (hf : 0 ≠ C) : CmdW w0 C S k' n' e' p' w' :=
  ⟨h.base.trans hk, hc, h.fine.kept hk hf⟩
theorem fail_not (k : Nat) (e p : Int) : okC (failE 3 e p) (failP k e p) = false := by
  unfold failE failP
  cases h : okC e p with
  | true => rfl
  | false => exact h
theorem seeC_some {S : List UInt8} {k : Nat} {e p : Int} {b : UInt8} (hb : seeB S k e p = some b) (C n : Nat) (w : World) (h : CmdC w C S k n e p) (hF : FineG w) (hS : S.length ≤ 1000000) (hk : k ≤ 1000000) :
    Calls Tryz.prog 65 #[.pointer (some ⟨C, 0, none⟩)] w fun x w' => x = .returned (.tuple #[.int .u8 (b.toNat : Int), .bool true]) ∧ ∃ m, w' = w.drewN m := by
  have c := seeC_any C S k n e p w h hF hS hk
  rw [hb] at c
  exact c
theorem seeC_none {S : List UInt8} {k : Nat} {e p : Int} (hb : seeB S k e p = none) (C n : Nat) (w : World) (h : CmdC w C S k n e p) (hF : FineG w) (hS : S.length ≤ 1000000) (hk : k ≤ 1000000) :
    Calls Tryz.prog 65 #[.pointer (some ⟨C, 0, none⟩)] w fun x w' => x = .returned (.tuple #[.int .u8 0, .bool false]) ∧ ∃ m, w' = w.drewN m := by
  have c := seeC_any C S k n e p w h hF hS hk
  rw [hb] at c
  exact c
set_option maxRecDepth 100000 in
set_option maxHeartbeats 4000000 in
theorem gapC_any (w0 : World) (C : Nat) (hf0 : 0 ≠ C) (S : List UInt8) (k n : Nat) (e p : Int) (w : World) (h : CmdW w0 C S k n e p w) (hS : S.length ≤ 1000000) (hk : k ≤ S.length) :
    Calls Tryz.prog 41 #[.pointer (some ⟨C, 0, none⟩)] w fun x w' => x = .returned (.tuple #[]) ∧ ∃ (k' : Nat) (e' p' : Int), CmdW w0 C S k' n e' p' w' ∧ k ≤ k' ∧ k' ≤ S.length ∧ (okC e' p' = true → k' = k + 1) := by
  have HW := Lib.hid h
  have HF0 := Lib.hid hf0
  cases hs : seeB S k e p with
  | none =>
    have cS := seeC_none hs C n w h.cmd h.fine hS (by omega)
    clear h hf0 hs
    go_enter Tryz.func41, Tryz.ntmps41
    go_wp2_with (first
      | (go_at_call 65; go_loud (((with_reducible refine cS.mono ?_); rintro e' w1 ⟨rfl, m, hw1⟩; have h1 : Below w.heap.size w w1 := hw1 ▸ below_drewN (Below.refl _ _) m; clear hw1; have g1 := HW.out.under h1)))
      | (go_at_call 44; go_loud (((with_reducible refine (failC_any C S k n e p 3 w1 g1.cmd g1.fine).mono ?_); rintro e' w2 ⟨rfl, hc2, hk2⟩; have g2 := g1.next hk2 hc2 HF0.out))))
    exact ⟨rfl, _, kresults_noneC rfl _ _, rfl, k, _, _, g2, Nat.le_refl _, hk, fun ho => absurd ho (by rw [fail_not]; decide)⟩
  | some b =>
    have cS := seeC_some hs C n w h.cmd h.fine hS (by omega)
    obtain ⟨ho, hl, hb⟩ := seeB_some hs
    clear h hf0 hs hb
    by_cases h32 : (b.toNat : Int) = 32
    · rw [h32] at cS
      go_enter Tryz.func41, Tryz.ntmps41
      go_wp2_with (go_at_call 65; go_loud (((with_reducible refine cS.mono ?_); rintro e' w1 ⟨rfl, m, hw1⟩; have h1 : Below w.heap.size w w1 := hw1 ▸ below_drewN (Below.refl _ _) m; clear hw1; have g1 := HW.out.under h1; obtain ⟨c0, c1, c2, c3, c4⟩ := five_cellsC g1.cmd; have fz := Lib.frozen_of_heap g1.cmd)))
      go_end0
      have k1 : Kept (fun j => j = C) w1 (w1.setCell ⟨C, 1, none⟩ (.int .i64 ((k : Int) + 1))) := (show Kept (fun j => j = C) w1 w1 from Kept.refl _ _).set (p := ⟨C, 1, none⟩) (fun _ => rfl) _
      have hc2 : CmdC (w1.setCell ⟨C, 1, none⟩ (.int .i64 ((k : Int) + 1))) C S (k + 1) n e p := set5_1 g1.cmd
      exact ⟨rfl, k + 1, e, p, g1.next k1 hc2 HF0.out, Nat.le_succ _, by omega, fun _ => rfl⟩
    · have e1 : ((b.toNat : Int) == 32) = false := by rw [beq_eq_false_iff_ne]; exact h32
      have e2 : decide ((b.toNat : Int) = 32) = false := decide_eq_false h32
      go_enter Tryz.func41, Tryz.ntmps41
      go_wp2_with (first
        | (go_at_call 65; go_loud (((with_reducible refine cS.mono ?_); rintro e' w1 ⟨rfl, m, hw1⟩; have h1 : Below w.heap.size w w1 := hw1 ▸ below_drewN (Below.refl _ _) m; clear hw1; have g1 := HW.out.under h1)))
        | (go_at_call 44; go_loud (((with_reducible refine (failC_any C S k n e p 3 w1 g1.cmd g1.fine).mono ?_); rintro e' w2 ⟨rfl, hc2, hk2⟩; have g2 := g1.next hk2 hc2 HF0.out))))
      exact ⟨rfl, _, kresults_noneC rfl _ _, rfl, k, _, _, g2, Nat.le_refl _, hk, fun ho => absurd ho (by rw [fail_not]; decide)⟩
end Go.Proofs.YtcahhnjponeeeaaGreatDoor
namespace Go.Proofs.YtcahhnjponeeeaaGreatDoor
open Go.RowKit Go.Shelf Go.Sort
set_option linter.unusedSimpArgs false
theorem see_parts (S : List UInt8) (k : Nat) (e p : Int) : ∃ (a4 : Int) (a5 : Bool), seeV (seeB S k e p) = .tuple #[.int .u8 a4, .bool a5] ∧ Hid ((seeB S k e p = none ∧ a4 = 0 ∧ a5 = false) ∨ ∃ b, seeB S k e p = some b ∧ a4 = (b.toNat : Int) ∧ a5 = true) := by
  cases h : seeB S k e p with
  | none => exact ⟨0, false, rfl, Lib.hid (Or.inl ⟨rfl, rfl, rfl⟩)⟩
  | some b => exact ⟨_, true, rfl, Lib.hid (Or.inr ⟨b, rfl, rfl, rfl⟩)⟩
set_option maxRecDepth 100000 in
set_option maxHeartbeats 8000000 in
theorem wordC_any (w0 : World) (C : Nat) (hf0 : 0 ≠ C) (S : List UInt8) (k n : Nat) (e p : Int) (w : World) (h : CmdW w0 C S k n e p w) (hS : S.length ≤ 1000000) (hk : k ≤ S.length) :
    Calls Tryz.prog 39 #[.pointer (some ⟨C, 0, none⟩)] w fun x w' => ∃ (B : ByteArray) (k' : Nat) (e' p' : Int), x = .returned (.string B) ∧ B.size ≤ S.length ∧ CmdW w0 C S k' n e' p' w' ∧ k ≤ k' ∧ k' ≤ S.length ∧ (okC e' p' = true → k < k') := by
  have HF0 := Lib.hid hf0
  have HW := Lib.hid h
  have ts := text_size S
  obtain ⟨c0, c1, c2, c3, c4⟩ := five_cellsC h.cmd
  have cS0 := fun W (hc : CmdC W C S k n e p) (hF : FineG W) => seeC_any C S k n e p W hc hF hS (by omega)
  clear h hf0
  have cS1 := cS0 w HW.out.cmd HW.out.fine
  obtain ⟨a4, a5, hv, H45⟩ := see_parts S k e p
  rw [hv] at cS1
  clear cS0 hv
  go_enter Tryz.func39, Tryz.ntmps39
  go_wp2_with (go_at_call 65; go_loud (((with_reducible refine cS1.mono ?_); rintro e' w1 ⟨rfl, m, hw1⟩; have h1 : Below w.heap.size w w1 := hw1 ▸ below_drewN (Below.refl _ _) m; clear hw1)))
  have G1 := Lib.hid (HW.out.under h1)
  clear cS1 c0 c1 c2 c3 c4 h1
  go_loopg [4, 5] (S.length - k) (fun g s4 s5 wr => ∃ (j : Nat) (b4 : Int) (b5 : Bool), k ≤ j ∧ j ≤ S.length ∧ j + g = S.length ∧ s4 = .int .u8 b4 ∧ s5 = .bool b5 ∧ Hid (CmdW w0 C S j n e p wr) ∧ Hid ((seeB S j e p = none ∧ b4 = 0 ∧ b5 = false) ∨ ∃ b, seeB S j e p = some b ∧ b4 = (b.toNat : Int) ∧ b5 = true))
  case atStart => exact ⟨k, a4, a5, Nat.le_refl _, hk, by omega, rfl, rfl, G1, H45⟩
  case round =>
    clear G1 H45
    obtain ⟨j, b4, b5, hkj, hkl, hjg, rfl, rfl, HCW, H⟩ := hrel
    have hcw := HCW.out
    obtain ⟨c0, c1, c2, c3, c4⟩ := five_cellsC hcw.cmd
    rcases H.out with ⟨hs, rfl, rfl⟩ | ⟨b, hs, rfl, rfl⟩
    · clear H hs
      by_cases hkk : j = k
      · subst hkk
        have hz1 : (j : Int) ≤ (j : Int) := Int.le_refl _
        have hz2 : (j : Int) ≤ (S.length : Int) := by omega
        go_upto_region 8 with (first
          | (go_at_call 66; go_loud (((with_reducible refine (cY _).mono ?_); rintro e' wa ⟨rfl, hwa⟩; rw [hwa]; clear hwa)))
          | (go_at_call 44; go_loud (((with_reducible refine (failC_any C S j n e p 3 _ hcw.cmd hcw.fine).mono ?_); rintro e' w2 ⟨rfl, hc2, hk2⟩; have g2 := hcw.next hk2 hc2 HF0.out; clear c0 c1 c2 c3 c4; obtain ⟨c0, c1, c2, c3, c4⟩ := five_cellsC hc2))))
        go_quiet (fail)
        go_wp2_with fail
        go_ret
        exact ⟨_, j, _, _, rfl, (by simp), g2.under (below_drewN (Below.refl _ _) _), Nat.le_refl _, hkl, fun ho => absurd ho (by rw [fail_not]; decide)⟩
      · have hz1 : (k : Int) ≤ (j : Int) := by omega
        have hz2 : (j : Int) ≤ (S.length : Int) := by omega
        have hz3 : decide ((j : Int) = (k : Int)) = false := decide_eq_false (by omega)
        have hz4 : ((j : Int) == (k : Int)) = false := by rw [beq_eq_false_iff_ne]; omega
        go_upto_region 8 with (first
          | (go_at_call 66; go_loud (((with_reducible refine (cY _).mono ?_); rintro e' wa ⟨rfl, hwa⟩; rw [hwa]; clear hwa))))
        go_quiet (fail)
        go_wp2_with fail
        go_ret
        exact ⟨_, j, e, p, rfl, by rw [ByteArray.size_extract]; omega, hcw.under (below_drewN (Below.refl _ _) _), hkj, hkl, fun _ => by omega⟩
    · obtain ⟨r, cY⟩ := wordyC_any b
      obtain ⟨ho, hl2, -⟩ := seeB_some hs
      clear H hs
      cases r with
      | false =>
        by_cases hkk : j = k
        · subst hkk
          have hz1 : (j : Int) ≤ (j : Int) := Int.le_refl _
          have hz2 : (j : Int) ≤ (S.length : Int) := by omega
          go_upto_region 8 with (first
            | (go_at_call 66; go_loud (((with_reducible refine (cY _).mono ?_); rintro e' wa ⟨rfl, hwa⟩; rw [hwa]; clear hwa)))
            | (go_at_call 44; go_loud (((with_reducible refine (failC_any C S j n e p 3 _ hcw.cmd hcw.fine).mono ?_); rintro e' w2 ⟨rfl, hc2, hk2⟩; have g2 := hcw.next hk2 hc2 HF0.out; clear c0 c1 c2 c3 c4; obtain ⟨c0, c1, c2, c3, c4⟩ := five_cellsC hc2))))
          go_quiet (fail)
          go_wp2_with fail
          go_ret
          exact ⟨_, j, _, _, rfl, (by simp), g2.under (below_drewN (Below.refl _ _) _), Nat.le_refl _, hkl, fun ho => absurd ho (by rw [fail_not]; decide)⟩
        · have hz1 : (k : Int) ≤ (j : Int) := by omega
          have hz2 : (j : Int) ≤ (S.length : Int) := by omega
          have hz3 : decide ((j : Int) = (k : Int)) = false := decide_eq_false (by omega)
          have hz4 : ((j : Int) == (k : Int)) = false := by rw [beq_eq_false_iff_ne]; omega
          go_upto_region 8 with (first
            | (go_at_call 66; go_loud (((with_reducible refine (cY _).mono ?_); rintro e' wa ⟨rfl, hwa⟩; rw [hwa]; clear hwa))))
          go_quiet (fail)
          go_wp2_with fail
          go_ret
          exact ⟨_, j, e, p, rfl, by rw [ByteArray.size_extract]; omega, hcw.under (below_drewN (Below.refl _ _) _), hkj, hkl, fun _ => by omega⟩
      | true =>
        obtain ⟨g', rfl⟩ : ∃ g', gk = g' + 1 := ⟨gk - 1, by omega⟩
        have k1 : Kept (fun i => i = C) wr (wr.setCell ⟨C, 1, none⟩ (.int .i64 ((j : Int) + 1))) := (show Kept (fun i => i = C) wr wr from Kept.refl _ _).set (p := ⟨C, 1, none⟩) (fun _ => rfl) _
        have hc2 : CmdC (wr.setCell ⟨C, 1, none⟩ (.int .i64 ((j : Int) + 1))) C S (j + 1) n e p := set5_1 hcw.cmd
        have gw2 := hcw.next k1 hc2 HF0.out
        obtain ⟨b4, b5, hv, H5⟩ := see_parts S (j + 1) e p
        have cS2 := seeC_any C S (j + 1) n e p _ gw2.cmd gw2.fine hS (by omega)
        rw [hv] at cS2
        have fz := Lib.frozen_of_heap hcw.cmd
        have GW2 := Lib.hid gw2
        clear gw2 hc2 k1 hv
        go_wp2_with (first
          | (go_at_call 66; go_loud (((with_reducible refine (cY _).mono ?_); rintro e' wa ⟨rfl, hwa⟩; rw [hwa]; clear hwa)))
          | (go_at_call 65; go_loud (((with_reducible refine cS2.mono ?_); rintro e' w2 ⟨rfl, m2, hw2⟩; have h2 : Below (wr.setCell ⟨C, 1, none⟩ (.int .i64 ((j : Int) + 1))).heap.size (wr.setCell ⟨C, 1, none⟩ (.int .i64 ((j : Int) + 1))) w2 := hw2 ▸ below_drewN (Below.refl _ _) m2; clear hw2))))
        go_roundg g'
        case measure => omega
        case rel => exact ⟨j + 1, b4, b5, by omega, by omega, by omega, rfl, rfl, Lib.hid (GW2.out.under h2), H5⟩
end Go.Proofs.YtcahhnjponeeeaaGreatDoor
namespace Go.Proofs.YtcahhnjponeeeaaGreatDoor
open Go.RowKit Go.Shelf Go.Sort
set_option linter.unusedSimpArgs false
theorem conv_one (w : World) (C : Nat) (x : Value) (b : UInt8) (z : Int) (hz : (b.toNat : Int) = z) : (convert 110 9 (.slice (some ⟨w.heap.size, 0, none⟩) 1 1)).run Tryz.prog ((w.setCell ⟨C, 1, none⟩ x).alloc (.cells #[.int .u8 z] 5)) = .ok (.string ⟨#[b]⟩) ((w.setCell ⟨C, 1, none⟩ x).alloc (.cells #[.int .u8 z] 5)) := by
  subst hz
  have h := run_convert_bytes_back (P := Tryz.prog) ((w.setCell ⟨C, 1, none⟩ x).alloc (.cells #[.int .u8 (b.toNat : Int)] 5)) 110 9 5 ⟨w.heap.size, 0, none⟩ 1 [b] Tryz.underlying110 Tryz.underlying5 Tryz.underlying9 (fun i hi => by
    match i, hi with
    | 0, _ =>
      have e := World.heap_alloc_new (w.setCell ⟨C, 1, none⟩ x) (.cells #[.int .u8 (b.toNat : Int)] 5)
      rw [set_size] at e
      rw [show (⟨w.heap.size, 0, none⟩ : Addr).add 0 = ⟨w.heap.size, 0, none⟩ from rfl, Lib.cell_of_heap e]
      rfl)
  exact h
set_option maxRecDepth 100000 in
set_option maxHeartbeats 8000000 in
theorem quotedC_any (w0 : World) (C : Nat) (hf0 : 0 ≠ C) (S : List UInt8) (k n : Nat) (e p : Int) (w : World) (h : CmdW w0 C S k n e p w) (hS : S.length ≤ 1000000) (hk : k + 1 ≤ S.length) :
    Calls Tryz.prog 67 #[.pointer (some ⟨C, 0, none⟩)] w fun x w' => ∃ (B : ByteArray) (k' : Nat) (e' p' : Int), x = .returned (.string B) ∧ B.size ≤ S.length ∧ CmdW w0 C S k' n e' p' w' ∧ k < k' ∧ k' ≤ S.length := by
  have HF0 := Lib.hid hf0
  have ts := text_size S
  obtain ⟨c0, c1, c2, c3, c4⟩ := five_cellsC h.cmd
  have fz := Lib.frozen_of_heap h.cmd
  have kG : Kept (fun i => i = C) w (w.setCell ⟨C, 1, none⟩ (.int .i64 ((k : Int) + 1))) := (show Kept (fun i => i = C) w w from Kept.refl _ _).set (p := ⟨C, 1, none⟩) (fun _ => rfl) _
  have hcG : CmdC (w.setCell ⟨C, 1, none⟩ (.int .i64 ((k : Int) + 1))) C S (k + 1) n e p := set5_1 h.cmd
  have G := h.next kG hcG HF0.out
  have HG := Lib.hid G
  clear h hf0 kG hcG G
  go_enter Tryz.func67, Tryz.ntmps67
  go_wp2_with fail
  clear c0 c1 c2 c3 c4 fz
  go_loopg [3] (S.length - k) (fun g s3 wr => ∃ (j : Nat) (B : ByteArray), k < j ∧ j ≤ S.length ∧ j + g ≤ S.length + 1 ∧ S.length ≤ j + g ∧ s3 = .string B ∧ B.size ≤ j ∧ Hid (CmdW w0 C S j n e p wr))
  case atStart => exact ⟨k + 1, ⟨#[]⟩, by omega, hk, by omega, by omega, rfl, Nat.zero_le _, HG⟩
  case round =>
    clear HG
    obtain ⟨j, B, hkj, hjl, hjg, hjg2, rfl, hBj, HCW⟩ := hrel
    have hcw := HCW.out
    obtain ⟨c0, c1, c2, c3, c4⟩ := five_cellsC hcw.cmd
    cases hs : seeB S j e p with
    | none =>
      have cS := seeC_none hs C n wr hcw.cmd hcw.fine hS (by omega)
      clear hs
      go_wp2_with (first
        | (go_at_call 65; ((with_reducible refine cS.mono ?_); rintro e' w1 ⟨rfl, mw1, hww1⟩; have g1 := hcw.under (show Below wr.heap.size wr w1 from hww1 ▸ below_drewN (Below.refl _ _) mw1); clear hww1; obtain ⟨c0, c1, c2, c3, c4⟩ := five_cellsC g1.cmd; have fz := Lib.frozen_of_heap g1.cmd))
        | (go_at_call 44; go_loud (((with_reducible refine (failC_any C S j n e p 3 _ g1.cmd g1.fine).mono ?_); rintro e' w9 ⟨rfl, hcw9, hkw9⟩; have g9 := g1.next hkw9 hcw9 HF0.out))))
      go_ret
      exact ⟨⟨#[]⟩, j, _, _, rfl, Nat.zero_le _, g9, by omega, hjl⟩
    | some b =>
      have cS := seeC_some hs C n wr hcw.cmd hcw.fine hS (by omega)
      obtain ⟨ho, hl2, -⟩ := seeB_some hs
      clear hs
      by_cases h13 : (b.toNat : Int) = 13
      · rw [h13] at cS
        go_wp2_with (first
          | (go_at_call 65; ((with_reducible refine cS.mono ?_); rintro e' w1 ⟨rfl, mw1, hww1⟩; have g1 := hcw.under (show Below wr.heap.size wr w1 from hww1 ▸ below_drewN (Below.refl _ _) mw1); clear hww1; obtain ⟨c0, c1, c2, c3, c4⟩ := five_cellsC g1.cmd; have fz := Lib.frozen_of_heap g1.cmd))
          | (go_at_call 44; go_loud (((with_reducible refine (failC_any C S j n e p 3 _ g1.cmd g1.fine).mono ?_); rintro e' w9 ⟨rfl, hcw9, hkw9⟩; have g9 := g1.next hkw9 hcw9 HF0.out))))
        go_ret
        exact ⟨⟨#[]⟩, j, _, _, rfl, Nat.zero_le _, g9, by omega, hjl⟩
      by_cases h10 : (b.toNat : Int) = 10
      · rw [h10] at cS
        go_wp2_with (first
          | (go_at_call 65; ((with_reducible refine cS.mono ?_); rintro e' w1 ⟨rfl, mw1, hww1⟩; have g1 := hcw.under (show Below wr.heap.size wr w1 from hww1 ▸ below_drewN (Below.refl _ _) mw1); clear hww1; obtain ⟨c0, c1, c2, c3, c4⟩ := five_cellsC g1.cmd; have fz := Lib.frozen_of_heap g1.cmd))
          | (go_at_call 44; go_loud (((with_reducible refine (failC_any C S j n e p 3 _ g1.cmd g1.fine).mono ?_); rintro e' w9 ⟨rfl, hcw9, hkw9⟩; have g9 := g1.next hkw9 hcw9 HF0.out))))
        go_ret
        exact ⟨⟨#[]⟩, j, _, _, rfl, Nat.zero_le _, g9, by omega, hjl⟩
      by_cases h0 : (b.toNat : Int) = 0
      · rw [h0] at cS
        go_wp2_with (first
          | (go_at_call 65; ((with_reducible refine cS.mono ?_); rintro e' w1 ⟨rfl, mw1, hww1⟩; have g1 := hcw.under (show Below wr.heap.size wr w1 from hww1 ▸ below_drewN (Below.refl _ _) mw1); clear hww1; obtain ⟨c0, c1, c2, c3, c4⟩ := five_cellsC g1.cmd; have fz := Lib.frozen_of_heap g1.cmd))
          | (go_at_call 44; go_loud (((with_reducible refine (failC_any C S j n e p 3 _ g1.cmd g1.fine).mono ?_); rintro e' w9 ⟨rfl, hcw9, hkw9⟩; have g9 := g1.next hkw9 hcw9 HF0.out))))
        go_ret
        exact ⟨⟨#[]⟩, j, _, _, rfl, Nat.zero_le _, g9, by omega, hjl⟩
      by_cases h34 : (b.toNat : Int) = 34
      · rw [h34] at cS
        go_wp2_with (go_at_call 65; ((with_reducible refine cS.mono ?_); rintro e' w1 ⟨rfl, mw1, hww1⟩; have g1 := hcw.under (show Below wr.heap.size wr w1 from hww1 ▸ below_drewN (Below.refl _ _) mw1); clear hww1; obtain ⟨c0, c1, c2, c3, c4⟩ := five_cellsC g1.cmd; have fz := Lib.frozen_of_heap g1.cmd; have kG2 : Kept (fun i => i = C) w1 (w1.setCell ⟨C, 1, none⟩ (.int .i64 ((j : Int) + 1))) := (show Kept (fun i => i = C) w1 w1 from Kept.refl _ _).set (p := ⟨C, 1, none⟩) (fun _ => rfl) _; have hcG2 : CmdC (w1.setCell ⟨C, 1, none⟩ (.int .i64 ((j : Int) + 1))) C S (j + 1) n e p := set5_1 g1.cmd; have G2 := g1.next kG2 hcG2 HF0.out))
        go_ret
        exact ⟨B, j + 1, e, p, rfl, by omega, G2, by omega, by omega⟩
      have e13b : ((b.toNat : Int) == 13) = false := by rw [beq_eq_false_iff_ne]; exact h13
      have d13b : decide ((b.toNat : Int) = 13) = false := decide_eq_false h13
      have e10b : ((b.toNat : Int) == 10) = false := by rw [beq_eq_false_iff_ne]; exact h10
      have d10b : decide ((b.toNat : Int) = 10) = false := decide_eq_false h10
      have e0b : ((b.toNat : Int) == 0) = false := by rw [beq_eq_false_iff_ne]; exact h0
      have d0b : decide ((b.toNat : Int) = 0) = false := decide_eq_false h0
      have e34b : ((b.toNat : Int) == 34) = false := by rw [beq_eq_false_iff_ne]; exact h34
      have d34b : decide ((b.toNat : Int) = 34) = false := decide_eq_false h34
      obtain ⟨g', rfl⟩ : ∃ g', gk = g' + 2 := ⟨gk - 2, by omega⟩
      by_cases h92 : (b.toNat : Int) = 92
      · rw [h92] at cS
        cases hs2 : seeB S (j + 1) e p with
        | none =>
          go_wp2_with (first
            | (go_at_call 65; ((with_reducible refine cS.mono ?_); rintro e' w1 ⟨rfl, mw1, hww1⟩; have g1 := hcw.under (show Below wr.heap.size wr w1 from hww1 ▸ below_drewN (Below.refl _ _) mw1); clear hww1; obtain ⟨c0, c1, c2, c3, c4⟩ := five_cellsC g1.cmd; have fz := Lib.frozen_of_heap g1.cmd; have kG2 : Kept (fun i => i = C) w1 (w1.setCell ⟨C, 1, none⟩ (.int .i64 ((j : Int) + 1))) := (show Kept (fun i => i = C) w1 w1 from Kept.refl _ _).set (p := ⟨C, 1, none⟩) (fun _ => rfl) _; have hcG2 : CmdC (w1.setCell ⟨C, 1, none⟩ (.int .i64 ((j : Int) + 1))) C S (j + 1) n e p := set5_1 g1.cmd; have G2 := g1.next kG2 hcG2 HF0.out; have cS2 := seeC_none hs2 C n _ G2.cmd G2.fine hS (by omega); clear cS))
            | (go_at_call 65; ((with_reducible refine cS2.mono ?_); rintro e' w2 ⟨rfl, mw2, hww2⟩; have g2 := G2.under (show Below _ _ w2 from hww2 ▸ below_drewN (Below.refl _ _) mw2); clear hww2; obtain ⟨c0, c1, c2, c3, c4⟩ := five_cellsC g2.cmd; have fz := Lib.frozen_of_heap g2.cmd))
            | (go_at_call 44; go_loud (((with_reducible refine (failC_any C S (j + 1) n e p 3 _ g2.cmd g2.fine).mono ?_); rintro e' w9 ⟨rfl, hcw9, hkw9⟩; have g9 := g2.next hkw9 hcw9 HF0.out))))
          go_ret
          exact ⟨⟨#[]⟩, j + 1, _, _, rfl, Nat.zero_le _, g9, by omega, by omega⟩
        | some c =>
          obtain ⟨-, hl3, -⟩ := seeB_some hs2
          by_cases k34 : (c.toNat : Int) = 34
          · go_wp2_with (first
              | (go_at_call 65; ((with_reducible refine cS.mono ?_); rintro e' w1 ⟨rfl, mw1, hww1⟩; have g1 := hcw.under (show Below wr.heap.size wr w1 from hww1 ▸ below_drewN (Below.refl _ _) mw1); clear hww1; obtain ⟨c0, c1, c2, c3, c4⟩ := five_cellsC g1.cmd; have fz := Lib.frozen_of_heap g1.cmd; have kG2 : Kept (fun i => i = C) w1 (w1.setCell ⟨C, 1, none⟩ (.int .i64 ((j : Int) + 1))) := (show Kept (fun i => i = C) w1 w1 from Kept.refl _ _).set (p := ⟨C, 1, none⟩) (fun _ => rfl) _; have hcG2 : CmdC (w1.setCell ⟨C, 1, none⟩ (.int .i64 ((j : Int) + 1))) C S (j + 1) n e p := set5_1 g1.cmd; have G2 := g1.next kG2 hcG2 HF0.out; have cS2 := seeC_some hs2 C n _ G2.cmd G2.fine hS (by omega); rw [k34] at cS2; clear cS))
              | (go_at_call 65; ((with_reducible refine cS2.mono ?_); rintro e' w2 ⟨rfl, mw2, hww2⟩; have g2 := G2.under (show Below _ _ w2 from hww2 ▸ below_drewN (Below.refl _ _) mw2); clear hww2; obtain ⟨c0, c1, c2, c3, c4⟩ := five_cellsC g2.cmd; have fz := Lib.frozen_of_heap g2.cmd; have kG3 : Kept (fun i => i = C) w2 (w2.setCell ⟨C, 1, none⟩ (.int .i64 (((j + 1 : Nat) : Int) + 1))) := (show Kept (fun i => i = C) w2 w2 from Kept.refl _ _).set (p := ⟨C, 1, none⟩) (fun _ => rfl) _; have hcG3 : CmdC (w2.setCell ⟨C, 1, none⟩ (.int .i64 (((j + 1 : Nat) : Int) + 1))) C S ((j + 1 : Nat) + 1) n e p := set5_1 g2.cmd; have G3 := g2.next kG3 hcG3 HF0.out; have hcv := conv_one w2 C (.int .i64 ((j : Int) + 1 + 1)) c 34 k34; have hbs : B.size + 1 ≤ 2000000 := (by omega); have b1s : (⟨#[c]⟩ : ByteArray).size = 1 := rfl)))
            go_roundg g'
            case measure => omega
            case rel => exact ⟨j + 1 + 1, B ++ ⟨#[c]⟩, by omega, by omega, by omega, by omega, rfl, by rw [ByteArray.size_append]; show B.size + 1 ≤ _; omega, Lib.hid (G3.under ((Below.refl _ _).alloc (Nat.le_refl _) _))⟩
          by_cases k92 : (c.toNat : Int) = 92
          · go_wp2_with (first
              | (go_at_call 65; ((with_reducible refine cS.mono ?_); rintro e' w1 ⟨rfl, mw1, hww1⟩; have g1 := hcw.under (show Below wr.heap.size wr w1 from hww1 ▸ below_drewN (Below.refl _ _) mw1); clear hww1; obtain ⟨c0, c1, c2, c3, c4⟩ := five_cellsC g1.cmd; have fz := Lib.frozen_of_heap g1.cmd; have kG2 : Kept (fun i => i = C) w1 (w1.setCell ⟨C, 1, none⟩ (.int .i64 ((j : Int) + 1))) := (show Kept (fun i => i = C) w1 w1 from Kept.refl _ _).set (p := ⟨C, 1, none⟩) (fun _ => rfl) _; have hcG2 : CmdC (w1.setCell ⟨C, 1, none⟩ (.int .i64 ((j : Int) + 1))) C S (j + 1) n e p := set5_1 g1.cmd; have G2 := g1.next kG2 hcG2 HF0.out; have cS2 := seeC_some hs2 C n _ G2.cmd G2.fine hS (by omega); rw [k92] at cS2; clear cS))
              | (go_at_call 65; ((with_reducible refine cS2.mono ?_); rintro e' w2 ⟨rfl, mw2, hww2⟩; have g2 := G2.under (show Below _ _ w2 from hww2 ▸ below_drewN (Below.refl _ _) mw2); clear hww2; obtain ⟨c0, c1, c2, c3, c4⟩ := five_cellsC g2.cmd; have fz := Lib.frozen_of_heap g2.cmd; have kG3 : Kept (fun i => i = C) w2 (w2.setCell ⟨C, 1, none⟩ (.int .i64 (((j + 1 : Nat) : Int) + 1))) := (show Kept (fun i => i = C) w2 w2 from Kept.refl _ _).set (p := ⟨C, 1, none⟩) (fun _ => rfl) _; have hcG3 : CmdC (w2.setCell ⟨C, 1, none⟩ (.int .i64 (((j + 1 : Nat) : Int) + 1))) C S ((j + 1 : Nat) + 1) n e p := set5_1 g2.cmd; have G3 := g2.next kG3 hcG3 HF0.out; have hcv := conv_one w2 C (.int .i64 ((j : Int) + 1 + 1)) c 92 k92; have hbs : B.size + 1 ≤ 2000000 := (by omega); have b1s : (⟨#[c]⟩ : ByteArray).size = 1 := rfl)))
            go_roundg g'
            case measure => omega
            case rel => exact ⟨j + 1 + 1, B ++ ⟨#[c]⟩, by omega, by omega, by omega, by omega, rfl, by rw [ByteArray.size_append]; show B.size + 1 ≤ _; omega, Lib.hid (G3.under ((Below.refl _ _).alloc (Nat.le_refl _) _))⟩
          have e34c : ((c.toNat : Int) == 34) = false := by rw [beq_eq_false_iff_ne]; exact k34
          have d34c : decide ((c.toNat : Int) = 34) = false := decide_eq_false k34
          have e92c : ((c.toNat : Int) == 92) = false := by rw [beq_eq_false_iff_ne]; exact k92
          have d92c : decide ((c.toNat : Int) = 92) = false := decide_eq_false k92
          have n34 : ((c.toNat : Int) != 34) = true := by rw [bne, e34c]; rfl
          have n92 : ((c.toNat : Int) != 92) = true := by rw [bne, e92c]; rfl
          have q34 : decide (¬ (c.toNat : Int) = 34) = true := decide_eq_true k34
          have q92 : decide (¬ (c.toNat : Int) = 92) = true := decide_eq_true k92
          go_wp2_with (first
            | (go_at_call 65; ((with_reducible refine cS.mono ?_); rintro e' w1 ⟨rfl, mw1, hww1⟩; have g1 := hcw.under (show Below wr.heap.size wr w1 from hww1 ▸ below_drewN (Below.refl _ _) mw1); clear hww1; obtain ⟨c0, c1, c2, c3, c4⟩ := five_cellsC g1.cmd; have fz := Lib.frozen_of_heap g1.cmd; have kG2 : Kept (fun i => i = C) w1 (w1.setCell ⟨C, 1, none⟩ (.int .i64 ((j : Int) + 1))) := (show Kept (fun i => i = C) w1 w1 from Kept.refl _ _).set (p := ⟨C, 1, none⟩) (fun _ => rfl) _; have hcG2 : CmdC (w1.setCell ⟨C, 1, none⟩ (.int .i64 ((j : Int) + 1))) C S (j + 1) n e p := set5_1 g1.cmd; have G2 := g1.next kG2 hcG2 HF0.out; have cS2 := seeC_some hs2 C n _ G2.cmd G2.fine hS (by omega); clear cS))
            | (go_at_call 65; ((with_reducible refine cS2.mono ?_); rintro e' w2 ⟨rfl, mw2, hww2⟩; have g2 := G2.under (show Below _ _ w2 from hww2 ▸ below_drewN (Below.refl _ _) mw2); clear hww2; obtain ⟨c0, c1, c2, c3, c4⟩ := five_cellsC g2.cmd; have fz := Lib.frozen_of_heap g2.cmd))
            | (go_at_call 44; go_loud (((with_reducible refine (failC_any C S (j + 1) n e p 3 _ g2.cmd g2.fine).mono ?_); rintro e' w9 ⟨rfl, hcw9, hkw9⟩; have g9 := g2.next hkw9 hcw9 HF0.out))))
          go_ret
          exact ⟨⟨#[]⟩, j + 1, _, _, rfl, Nat.zero_le _, g9, by omega, by omega⟩
      have e92b : ((b.toNat : Int) == 92) = false := by rw [beq_eq_false_iff_ne]; exact h92
      have d92b : decide ((b.toNat : Int) = 92) = false := decide_eq_false h92
      go_wp2_with (go_at_call 65; ((with_reducible refine cS.mono ?_); rintro e' w1 ⟨rfl, mw1, hww1⟩; have g1 := hcw.under (show Below wr.heap.size wr w1 from hww1 ▸ below_drewN (Below.refl _ _) mw1); clear hww1; obtain ⟨c0, c1, c2, c3, c4⟩ := five_cellsC g1.cmd; have fz := Lib.frozen_of_heap g1.cmd; have kG2 : Kept (fun i => i = C) w1 (w1.setCell ⟨C, 1, none⟩ (.int .i64 ((j : Int) + 1))) := (show Kept (fun i => i = C) w1 w1 from Kept.refl _ _).set (p := ⟨C, 1, none⟩) (fun _ => rfl) _; have hcG2 : CmdC (w1.setCell ⟨C, 1, none⟩ (.int .i64 ((j : Int) + 1))) C S (j + 1) n e p := set5_1 g1.cmd; have G2 := g1.next kG2 hcG2 HF0.out; have hcv := conv_one w1 C (.int .i64 ((j : Int) + 1)) b _ rfl; have hbs : B.size + 1 ≤ 2000000 := (by omega); have b1s : (⟨#[b]⟩ : ByteArray).size = 1 := rfl))
      go_roundg (g' + 1)
      case measure => omega
      case rel => exact ⟨j + 1, B ++ ⟨#[b]⟩, by omega, by omega, by omega, by omega, rfl, by rw [ByteArray.size_append]; show B.size + 1 ≤ _; omega, Lib.hid (G2.under ((Below.refl _ _).alloc (Nat.le_refl _) _))⟩
end Go.Proofs.YtcahhnjponeeeaaGreatDoor
