/- What the reference's arg brings: a word by its cells, and the reader goes on or has failed. No condition beyond those each names. The walk over the reference's arg at a list, given it at the next depth. Conditions: letterboxref.Fine, strconv's table of powers and its two errors lie as the program's text lays them. The walk over the reference's arg, at one depth, given it at the next. Conditions: letterboxref.Fine, strconv's table of powers and its two errors lie as the program's text lays them. What holds while the reference reads a command: what it returns, the command's own block, the parts so far. No condition beyond those each names. The walk over the reference's ParseCommand: it brings words in new blocks, and a fault. Conditions: letterboxref.Fine, strconv's table of powers and its two errors lie as the program's text lays them. -/
import Derived.Deep.AppendLies
import Derived.Deep.DrawnRows
import Derived.Deep.DeepCutAuto
import Derived.Deep.CutBlock
import Derived.Test.YtcahhnjponeeeaaGreatDoorPkCmdD
import Derived.Test.YtcahhnjponeeeaaGreatDoorPkHeldS
import Derived.Test.YtcahhnjponeeeaaGreatDoorPkSrchS
import Derived.Test.YtcahhnjponeeeaaGreatDoorPkRNum
import Derived.Test.YtcahhnjponeeeaaGreatDoorPkHeadL
namespace Go.Proofs.YtcahhnjponeeeaaGreatDoor
open Go.RowKit Go.Shelf Go.Sort
set_option linter.unusedSimpArgs false
/-- a slice value that reads as a list of words, in blocks that are such as ok says; each text is short enough -/
inductive WordsL (W : World) (ok : Nat → Prop) : Value → List Wd → Prop
  | mk (a : Option Addr) (cap : Nat) (l : List Wd) (vs : Nat → Value) : l.length ≤ cap → cap ≤ 9223372036854775807 →
      (∀ (j : Nat) (t : Wd), l[j]? = some t → ∃ g off, a = some ⟨g, off, none⟩ ∧ (ok g ∧ g < W.heap.size) ∧ W.cell? ⟨g, off + j * 3, none⟩ = some (.int .i64 t.kind) ∧ W.cell? ⟨g, off + j * 3 + 1, none⟩ = some (.string ⟨t.text.toArray⟩) ∧ W.cell? ⟨g, off + j * 3 + 2, none⟩ = some (vs j)) →
      (∀ (j : Nat) (t : Wd), l[j]? = some t → t.text.length ≤ 1000000) → (∀ (j : Nat) (t : Wd), l[j]? = some t → WordsL W ok (vs j) t.list) → WordsL W ok (.slice a l.length cap) l
theorem WordsL.keep {W W' : World} {ok ok' : Nat → Prop} {v : Value} {l : List Wd} (h : WordsL W ok v l) (hs : W.heap.size ≤ W'.heap.size) (hk : ∀ j, ok j → j < W.heap.size → W'.heap[j]? = W.heap[j]?) (ho : ∀ j, ok j → j < W.heap.size → ok' j) : WordsL W' ok' v l := by
  induction h with
  | mk a cap l vs h1 h2 h3 h4 _ ih =>
    refine .mk a cap l vs h1 h2 (fun j t hj => ?_) h4 ih
    obtain ⟨g, off, e, hg, c0, c1, c2⟩ := h3 j t hj
    have hb := hk g hg.1 hg.2
    exact ⟨g, off, e, ⟨ho g hg.1 hg.2, by omega⟩, (World.cell?_of_block (w := W) (a := ⟨g, off + j * 3, none⟩) hb).trans c0, (World.cell?_of_block (w := W) (a := ⟨g, off + j * 3 + 1, none⟩) hb).trans c1, (World.cell?_of_block (w := W) (a := ⟨g, off + j * 3 + 2, none⟩) hb).trans c2⟩
theorem WordsL.kept {W W' : World} {ok : Nat → Prop} {S : Nat → Prop} {v : Value} {l : List Wd} (h : WordsL W ok v l) (hk : Kept S W W') (hS : ∀ j, ok j → ¬ S j) : WordsL W' ok v l := h.keep hk.size (fun j h1 h2 => hk.block j h2 (hS j h1)) (fun _ h _ => h)
theorem WordsL.under {W W' : World} {ok : Nat → Prop} {v : Value} {l : List Wd} (h : WordsL W ok v l) (hb : Below W.heap.size W W') : WordsL W' ok v l := h.keep hb.size (fun j _ h2 => hb.block j h2) (fun _ h _ => h)
theorem WordsL.weak {W : World} {ok ok' : Nat → Prop} {v : Value} {l : List Wd} (h : WordsL W ok v l) (ho : ∀ j, ok j → ok' j) : WordsL W ok' v l := h.keep (Nat.le_refl _) (fun _ _ _ => rfl) (fun j h _ => ho j h)
theorem WordsL.val {W : World} {ok : Nat → Prop} {v : Value} {l : List Wd} (h : WordsL W ok v l) : ∃ a c, v = .slice a l.length c := by
  cases h with
  | mk a cap l vs h1 h2 => exact ⟨a, cap, rfl⟩
theorem WordsL.readsK {W : World} {ok : Nat → Prop} {v : Value} {l : List Wd} (h : WordsL W ok v l) : ReadsK W W.heap.size v l := by
  induction h with
  | mk a cap l vs h1 h2 h3 h4 _ ih =>
    refine .mk a cap l vs h1 h2 (fun j t hj => ?_) (fun j t hj => by have := h4 j t hj; omega) ih
    obtain ⟨g, off, e, hg, c⟩ := h3 j t hj
    exact ⟨g, off, e, hg.2, c⟩
theorem wordsL_nil (W : World) (ok : Nat → Prop) : WordsL W ok (.slice none 0 0) [] := WordsL.mk none 0 [] (fun _ => .nilIface) (Nat.zero_le _) (by decide) (fun j t h => by simp at h) (fun j t h => by simp at h) (fun j t h => by simp at h)
/-- a row of words that lies in one block of its own -/
theorem wordsL_own {W : World} {ok : Nat → Prop} {B : Nat} {ov : Value} {n : Nat} {rs : List (Wd × Value)} (h : W.ownsRow B 92 3 ov n (wdCells rs)) (hn : n = rs.length) (hlo : ∀ g, ov.ownBlock = some g → ok g) (ht : ∀ x ∈ rs, x.1.text.length ≤ 1000000) (hs : ∀ x ∈ rs, WordsL W ok x.2 x.1.list) : WordsL W ok ov (rs.map (·.1)) := by
  subst hn
  have h0 := h
  rcases h.2 with ⟨rfl, e0⟩ | ⟨g, cap, cur, rfl, hg, hh, h3, h4, h5, h6'⟩
  · have : rs = [] := List.eq_nil_of_length_eq_zero e0
    subst this
    exact wordsL_nil _ _
  · have hm : rs.length = (rs.map (·.1)).length := (List.length_map _).symm
    have key : WordsL W ok (.slice (some ⟨g, 0, none⟩) (rs.map (·.1)).length cap) (rs.map (·.1)) := by
      refine .mk _ _ _ (fun j => ((rs[j]?).map (·.2)).getD .nilIface) (by rw [← hm]; exact h3) (by unfold maxLen at h4; omega) (fun j t hj => ?_) (fun j t hj => ?_) (fun j t hj => ?_)
      · rw [List.getElem?_map] at hj
        obtain ⟨x, hx, rfl⟩ := Option.map_eq_some_iff.1 hj
        obtain ⟨c0, c1, c2⟩ := wdCells_at rs j x hx
        have hjl := (List.getElem?_eq_some_iff.1 hx).1
        have hcl : ∀ (i : Nat) (u : Value), i < 3 → (wdCells rs)[j * 3 + i]? = some u → W.cell? ⟨g, 0 + j * 3 + i, none⟩ = some u := fun i u hi hu => by
          have := h0.cellAt (j * 3 + i) (by omega)
          rw [hu] at this
          rw [Nat.zero_add]
          exact this
        refine ⟨g, 0, rfl, ⟨hlo g rfl, (Array.getElem?_eq_some_iff.1 hh).1⟩, hcl 0 _ (by decide) c0, hcl 1 _ (by decide) c1, ?_⟩
        simp only [hx, Option.map_some, Option.getD_some]
        exact hcl 2 _ (by decide) c2
      · rw [List.getElem?_map] at hj
        obtain ⟨x, hx, rfl⟩ := Option.map_eq_some_iff.1 hj
        exact ht x (List.mem_of_getElem? hx)
      · rw [List.getElem?_map] at hj
        obtain ⟨x, hx, rfl⟩ := Option.map_eq_some_iff.1 hj
        simp only [hx, Option.map_some, Option.getD_some]
        exact hs x (List.mem_of_getElem? hx)
    rw [← hm] at key
    exact key
theorem WordsL.cons {W : World} {ok : Nat → Prop} {a : Option Addr} {n c : Nat} {t : Wd} {l : List Wd} (h : WordsL W ok (.slice a n c) (t :: l)) : ∃ g off va vc, a = some ⟨g, off, none⟩ ∧ n = l.length + 1 ∧ l.length + 1 ≤ c ∧ c ≤ 9223372036854775807 ∧ ok g ∧ W.cell? ⟨g, off, none⟩ = some (.int .i64 t.kind) ∧ W.cell? ⟨g, off + 1, none⟩ = some (.string ⟨t.text.toArray⟩) ∧ W.cell? ⟨g, off + 2, none⟩ = some (.slice va t.list.length vc) ∧ t.text.length ≤ 1000000 ∧ WordsL W ok (.slice va t.list.length vc) t.list ∧ WordsL W ok (.slice (some ⟨g, off + 3, none⟩) l.length (c - 1)) l := by
  generalize hv : Value.slice a n c = v at h
  cases h with
  | mk a' cap l' vs h1 h2 h3 h4 h5 =>
    cases hv
    obtain ⟨g, off, rfl, hg, c0, c1, c2⟩ := h3 0 t rfl
    obtain ⟨va, vc, hv0⟩ := (h5 0 t rfl).val
    have h50 := h5 0 t rfl
    rw [hv0] at c2 h50
    refine ⟨g, off, va, vc, rfl, rfl, by simpa using h1, h2, hg.1, by simpa using c0, by simpa using c1, by simpa using c2, h4 0 t rfl, h50, ?_⟩
    refine .mk _ _ l (fun j => vs (j + 1)) (by simp at h1; omega) (by omega) (fun j u hj => ?_) (fun j u hj => h4 (j + 1) u (by simpa using hj)) (fun j u hj => h5 (j + 1) u (by simpa using hj))
    obtain ⟨g', off', e, hg', d0, d1, d2⟩ := h3 (j + 1) u (by simpa using hj)
    cases e
    rw [show off + (j + 1) * 3 = off + 3 + j * 3 by omega] at d0 d1 d2
    exact ⟨g, off + 3, rfl, hg', d0, d1, d2⟩
theorem WordsL.bound {W : World} {ok : Nat → Prop} {a : Option Addr} {n c : Nat} {l : List Wd} (h : WordsL W ok (.slice a n c) l) : n = l.length ∧ l.length ≤ c ∧ c ≤ 9223372036854775807 := by
  generalize hv : Value.slice a n c = v at h
  cases h with
  | mk a' cap l' vs h1 h2 => cases hv; exact ⟨rfl, h1, h2⟩
theorem wordsL_none {W : World} {ok : Nat → Prop} {a : Option Addr} {c : Nat} {l : List Wd} (h : l.length + 1 ≤ 1) (hc : c ≤ 9223372036854775807) : WordsL W ok (.slice a l.length c) l := by
  have : l = [] := List.eq_nil_of_length_eq_zero (by omega)
  subst this
  exact .mk a c [] (fun _ => .nilIface) (Nat.zero_le _) hc (fun j t h => by simp at h) (fun j t h => by simp at h) (fun j t h => by simp at h)
theorem bytes_mk (B : ByteArray) : ∃ t : List UInt8, B = ⟨t.toArray⟩ ∧ t.length = B.size := ⟨B.data.toList, by simp, by rw [← Lib.size_eq]⟩
/-- what arg brings: an Arg's three cells, whose words lie in new blocks; the state goes on, or nothing more is read -/
def ArgCS (w0 : World) (C : Nat) (S : List UInt8) (k : Nat) (w : World) (x : Ending) (w' : World) : Prop :=
  ∃ (t : Wd) (a : Option Addr) (c k' n' : Nat) (e' p' : Int), x = .returned (.agg #[.int .i64 t.kind, .string ⟨t.text.toArray⟩, .slice a t.list.length c]) ∧ t.text.length ≤ 1000000 ∧ Hid (WordsL w' (fun j => w.heap.size ≤ j) (.slice a t.list.length c) t.list) ∧
    Hid (CmdW w0 C S k' n' e' p' w') ∧ k ≤ k' ∧ k' ≤ S.length ∧ (okC e' p' = true → k < k' ∧ n' ≤ 60) ∧ Hid (Kept (fun j => j = C) w w')
end Go.Proofs.YtcahhnjponeeeaaGreatDoor
namespace Go.Proofs.YtcahhnjponeeeaaGreatDoor
open Go.RowKit Go.Shelf Go.Sort
theorem set_thr {w : World} {U : Nat} {a b c : Value} {T : TypeId} (h : w.heap[U]? = some (.cells #[a, b, c] T (0, 0))) (x y z : Value) : (((w.setCell ⟨U, 0, none⟩ x).setCell ⟨U, 1, none⟩ y).setCell ⟨U, 2, none⟩ z).heap[U]? = some (.cells #[x, y, z] T (0, 0)) := by
  simp only [World.setCell, Array.getElem?_modify, if_pos, h]
  simp
theorem argC_size : (Tryz.prog.info? 92).map (·.size) = some 3 := by kernel_rfl
theorem CmdW.put {w0 w : World} {C : Nat} {S : List UInt8} {k n : Nat} {e p : Int} (h : CmdW w0 C S k n e p w) {R : Nat} (hR : w0.heap.size ≤ R) (hC : C ≠ R) (hF : 0 ≠ R) (i : Nat) (u : Value) : CmdW w0 C S k n e p (w.setCell ⟨R, i, none⟩ u) :=
  ⟨h.base.setNew hR u, (Below.heap_setCell w ⟨R, i, none⟩ u C hC).trans h.cmd, (World.cell?_of_block (w := w) (a := ⟨_, 0, none⟩) (Below.heap_setCell w ⟨R, i, none⟩ u _ hF)).trans h.fine.1, (World.cell?_of_block (w := w) (a := ⟨_, 1, none⟩) (Below.heap_setCell w ⟨R, i, none⟩ u _ hF)).trans h.fine.2⟩
/-- arg's result, laid in its own block -/
theorem ArgCS.done {w0 : World} {C : Nat} {S : List UInt8} {k k' n' : Nat} {e' p' : Int} {w w1 : World} (h0 : w0.heap.size ≤ w.heap.size) (hRC : C < w.heap.size) (hF : 0 < w.heap.size)
    (g : CmdW w0 C S k' n' e' p' w1) (hK : Kept (fun j => j = C) w w1) (kd : Int) (B : ByteArray) (hB : B.size ≤ 1000000) (hk : k ≤ k') (hk2 : k' ≤ S.length) (hd : okC e' p' = true → k < k' ∧ n' ≤ 60) :
    ArgCS w0 C S k w (.returned (.agg #[.int .i64 kd, .string B, .slice none 0 0])) (((w1.setCell ⟨w.heap.size, 0, none⟩ (.int .i64 kd)).setCell ⟨w.heap.size, 1, none⟩ (.string B)).setCell ⟨w.heap.size, 2, none⟩ (.slice none 0 0)) := by
  obtain ⟨t, rfl, ht⟩ := bytes_mk B
  have k2 : Kept (fun j => j = C) w (((w1.setCell ⟨w.heap.size, 0, none⟩ (.int .i64 kd)).setCell ⟨w.heap.size, 1, none⟩ (.string ⟨t.toArray⟩)).setCell ⟨w.heap.size, 2, none⟩ (.slice none 0 0)) := ((hK.setNew (Nat.le_refl _) _).setNew (p := ⟨w.heap.size, 1, none⟩) (Nat.le_refl _) _).setNew (p := ⟨w.heap.size, 2, none⟩) (Nat.le_refl _) _
  exact ⟨.mk kd t [], none, 0, k', n', e', p', rfl, (by show t.length ≤ 1000000; omega), Lib.hid (wordsL_nil _ _), Lib.hid (((g.put h0 (by omega) (by omega) _ _).put h0 (by omega) (by omega) _ _).put h0 (by omega) (by omega) _ _), hk, hk2, hd, Lib.hid k2⟩
def ArgSpec (d : Int) : Prop := ∀ (w0 : World) (C : Nat) (S : List UInt8) (k n : Nat) (e p : Int) (w : World), 0 ≠ C → CmdW w0 C S k n e p w → S.length ≤ 1000000 → k ≤ S.length → okC e p = true → n ≤ 60 → (∀ W, Kept (fun j => j = C) w0 W → StrG W) →
    Calls Tryz.prog 43 #[.pointer (some ⟨C, 0, none⟩), .int .i64 d] w (ArgCS w0 C S k w)
theorem fail_noE (E : Int) (k : Nat) (e p : Int) : okC (failE E e p) (failP k e p) = false := by
  unfold failE failP
  cases h : okC e p with
  | true =>
    rw [if_pos rfl, if_pos rfl]
    unfold okC
    rw [decide_eq_false (show ¬ (k : Int) = -1 by omega), Bool.and_false]
  | false => exact h
theorem see_off {S : List UInt8} {k : Nat} {e p : Int} (h : okC e p = false) : seeB S k e p = none := by
  unfold seeB
  rw [h, if_neg (by simp)]
end Go.Proofs.YtcahhnjponeeeaaGreatDoor
namespace Go.Proofs.YtcahhnjponeeeaaGreatDoor
open Go.RowKit Go.Shelf Go.Sort
set_option linter.unusedSimpArgs false
theorem threeC_heap (w : World) (U : Nat) (x y z : Value) (k : Nat) (h : k ≠ U) : (((w.setCell ⟨U, 0, none⟩ x).setCell ⟨U, 1, none⟩ y).setCell ⟨U, 2, none⟩ z).heap[k]? = w.heap[k]? := by
  rw [Below.heap_setCell _ _ _ _ h, Below.heap_setCell _ _ _ _ h, Below.heap_setCell _ _ _ _ h]
/-- what holds while a list is read: the result's block R, the list's block A, the words so far in a row of the list's own -/
structure LstC (w0 w : World) (C A R : Nat) (S : List UInt8) (k : Nat) (rs : List (Wd × Value)) (ov : Value) (j n' : Nat) (e' p' : Int) (W : World) : Prop where
  cmd : CmdW w0 C S j n' e' p' W
  lo : k + 1 ≤ j
  hi : j ≤ S.length
  num : okC e' p' = true → n' ≤ 60
  own : W.ownsRow (A + 1) 92 3 ov rs.length (wdCells rs)
  cell : W.heap[A]? = some (.cells #[.int .i64 3, .string ⟨#[]⟩, ov] 92 (0, 0))
  res : W.heap[R]? = some (.cells #[.int .i64 0, .string ⟨#[]⟩, .slice none 0 0] 92 (0, 0))
  words : ∀ x ∈ rs, x.1.text.length ≤ 1000000 ∧ WordsL W (fun j => A < j ∧ ov.ownBlock ≠ some j) x.2 x.1.list
  kept : Kept (fun i => i = C) w W
  many : rs.length ≤ j
theorem cmd_ne {w0 w : World} {C k n : Nat} {S : List UInt8} {e p : Int} (h : CmdW w0 C S k n e p w) {g : Nat} {c : Array Value} {T : TypeId} {fz : Nat × Nat} (hk : w.heap[g]? = some (.cells c T fz)) (hT : T ≠ 88) : g ≠ C := by
  rintro rfl
  have h1 := h.cmd
  unfold CmdC at h1
  rw [hk] at h1
  have := congrArg (fun o : Option Obj => match o with | some (.cells _ t _) => t | _ => T) h1
  exact hT this
theorem LstC.call {w0 w : World} {C A R : Nat} {S : List UInt8} {k : Nat} {rs : List (Wd × Value)} {ov : Value} {j n' : Nat} {e' p' : Int} {W W' : World} (h : LstC w0 w C A R S k rs ov j n' e' p' W) (hCA : C < A) (hF : 0 ≠ C) (hk : Kept (fun i => i = C) W W') {j2 n2 : Nat} {e2 p2 : Int} (hc : CmdC W' C S j2 n2 e2 p2) (h1 : j ≤ j2) (h2 : j2 ≤ S.length) (h3 : okC e2 p2 = true → n2 ≤ 60) : LstC w0 w C A R S k rs ov j2 n2 e2 p2 W' where
  cmd := h.cmd.next hk hc hF
  lo := Nat.le_trans h.lo h1
  hi := h2
  num := h3
  own := owns_same h.own fun g o hg hor => hk.obj hg (by
    obtain ⟨c, fz, rfl⟩ := hor
    exact cmd_ne h.cmd hg (by decide))
  cell := hk.obj h.cell (cmd_ne h.cmd h.cell (by decide))
  res := hk.obj h.res (cmd_ne h.cmd h.res (by decide))
  words := fun x hx => ⟨(h.words x hx).1, (h.words x hx).2.kept hk (fun g hg e => by have := hg.1; omega)⟩
  kept := h.kept.trans hk
  many := Nat.le_trans h.many h1
theorem LstC.under {w0 w : World} {C A R : Nat} {S : List UInt8} {k : Nat} {rs : List (Wd × Value)} {ov : Value} {j n' : Nat} {e' p' : Int} {W W' : World} (h : LstC w0 w C A R S k rs ov j n' e' p' W) (hCA : C < A) (hF : 0 ≠ C) (hb : Below W.heap.size W W') : LstC w0 w C A R S k rs ov j n' e' p' W' :=
  h.call hCA hF (kept_below hb) (h.cmd.cmd.below hb) (Nat.le_refl _) h.hi h.num
theorem LstC.push {w0 w : World} {C A R : Nat} {S : List UInt8} {k : Nat} {rs : List (Wd × Value)} {ov : Value} {j n' : Nat} {e' p' : Int} {W W6 : World} (h : LstC w0 w C A R S k rs ov j n' e' p' W) (hCR : C < R) (hRA : R < A) (hw0 : w0.heap.size ≤ R) (hR : R = w.heap.size) (hFR : 0 < R) (hj : rs.length + 1 ≤ j)
    (t : Wd) (va : Value) (H : Nat) (hH : A < H) (hv : ∀ g, ov.ownBlock = some g → g < H) (htl : t.text.length ≤ 1000000) (hva : WordsL W (fun g => H ≤ g) va t.list)
    {g cap : Nat} (hown : W6.ownsRow (A + 1) 92 3 (.slice (some ⟨g, 0, none⟩) (rs.length + 1) cap) (rs.length + 1) (wdCells rs ++ [.int .i64 t.kind, .string ⟨t.text.toArray⟩, va])) (hg : (W.alloc (.cells #[.int .i64 t.kind, .string ⟨t.text.toArray⟩, va] 92)).grownBy W6 ov.ownBlock) (hat : ov.ownBlock = some g ∨ g = W.heap.size + 1) :
    LstC w0 w C A R S k (rs ++ [(t, va)]) (.slice (some ⟨g, 0, none⟩) (rs.length + 1) cap) j n' e' p' (W6.setCell ⟨A, 2, none⟩ (.slice (some ⟨g, 0, none⟩) (rs.length + 1) cap)) := by
  have hAl : A < W.heap.size := (Array.getElem?_eq_some_iff.1 h.cell).1
  have hsz := alloc_size W (.cells #[.int .i64 t.kind, .string ⟨t.text.toArray⟩, va] 92)
  have hle := hg.size
  have hlow : ∀ i, ov.ownBlock = some i → A < i := fun i e => (h.own.lt i e).1
  have same : ∀ i, i < W.heap.size → ov.ownBlock ≠ some i → W6.heap[i]? = W.heap[i]? := fun i hi hne =>
    (hg.block i (by omega) (fun e => hne e.symm)).trans (Below.heap_alloc W _ i hi)
  have hb : Below (A + 1) W W6 := ((Below.refl (A + 1) W).alloc (by omega) _).grown hg (by omega) (fun i e => hlow i e)
  have hb0 : Below A W (W6.setCell ⟨A, 2, none⟩ (.slice (some ⟨g, 0, none⟩) (rs.length + 1) cap)) := (hb.mono (Nat.le_succ A)).setCell (Nat.le_refl _) _
  have hCl : C < A := by omega
  have hk6 : Kept (fun i => i = C) w (W6.setCell ⟨A, 2, none⟩ (.slice (some ⟨g, 0, none⟩) (rs.length + 1) cap)) := h.kept.next (hb0.mono (by omega))
  have hk0 : Kept (fun i => i = C) w0 (W6.setCell ⟨A, 2, none⟩ (.slice (some ⟨g, 0, none⟩) (rs.length + 1) cap)) := h.cmd.base.next (hb0.mono (by omega))
  refine ⟨⟨hk0, (hb0.block C hCl).trans h.cmd.cmd, (World.cell?_of_block (w := W) (a := ⟨0, 0, none⟩) (hb0.block 0 (by omega))).trans h.cmd.fine.1, (World.cell?_of_block (w := W) (a := ⟨0, 1, none⟩) (hb0.block 0 (by omega))).trans h.cmd.fine.2⟩, h.lo, h.hi, h.num, ?_, ?_, ?_, ?_, hk6, by rw [List.length_append]; simpa using hj⟩
  · have e : (rs ++ [(t, va)]).length = rs.length + 1 := by simp
    have e2 : wdCells (rs ++ [(t, va)]) = wdCells rs ++ [.int .i64 t.kind, .string ⟨t.text.toArray⟩, va] := by simp [wdCells]
    rw [e, e2]
    exact ownsRow_setCell_below (a := ⟨A, 2, none⟩) hown (Nat.lt_succ_self _) _
  · have h1 := (same A hAl (fun e => by have := hlow A e; omega)).trans h.cell
    exact set3_2 h1
  · exact (hb0.block R hRA).trans h.res
  · intro y hy
    have key : ∀ (ok : Nat → Prop) (u : Value) (l : List Wd), WordsL W ok u l → (∀ i, ok i → A < i ∧ ov.ownBlock ≠ some i) → WordsL (W6.setCell ⟨A, 2, none⟩ (.slice (some ⟨g, 0, none⟩) (rs.length + 1) cap)) (fun i => A < i ∧ (Value.slice (some ⟨g, 0, none⟩) (rs.length + 1) cap).ownBlock ≠ some i) u l := fun ok u l hr hok => by
      refine hr.keep (by rw [set_size]; omega) (fun i hi hl => ?_) (fun i hi hl => ⟨(hok i hi).1, fun e => ?_⟩)
      · rw [Below.heap_setCell _ _ _ _ (show i ≠ A by have := (hok i hi).1; omega)]
        exact same i hl (hok i hi).2
      · have e2 : g = i := Option.some.inj e
        subst e2
        rcases hat with h' | h'
        · exact (hok g hi).2 h'
        · omega
    rcases List.mem_append.1 hy with h' | h'
    · exact ⟨(h.words y h').1, key _ _ _ (h.words y h').2 (fun i hi => hi)⟩
    · rw [List.mem_singleton] at h'
      subst h'
      exact ⟨htl, key _ _ _ hva (fun i hi => ⟨by omega, fun e => by have := hv i e; omega⟩)⟩
/-- the list is laid as the result -/
theorem LstC.done {w0 w : World} {C A R : Nat} {S : List UInt8} {k : Nat} {rs : List (Wd × Value)} {ov : Value} {j n' : Nat} {e' p' : Int} {W : World} (h : LstC w0 w C A R S k rs ov j n' e' p' W) (hCR : C < R) (hRA : R < A) (hw0 : w0.heap.size ≤ R) (hR : R = w.heap.size) (hFR : 0 < R) :
    ArgCS w0 C S k w (.returned (.agg #[.int .i64 3, .string ⟨#[]⟩, ov])) (((W.setCell ⟨R, 0, none⟩ (.int .i64 3)).setCell ⟨R, 1, none⟩ (.string ⟨#[]⟩)).setCell ⟨R, 2, none⟩ ov) := by
  have hrd := wordsL_own (ok := fun i => A < i) h.own rfl (fun g e => (h.own.lt g e).1) (fun x hx => by have := (h.words x hx).1; omega) (fun x hx => (h.words x hx).2.weak (fun i hi => hi.1))
  have hrd2 : WordsL (((W.setCell ⟨R, 0, none⟩ (.int .i64 3)).setCell ⟨R, 1, none⟩ (.string ⟨#[]⟩)).setCell ⟨R, 2, none⟩ ov) (fun i => w.heap.size ≤ i) ov (rs.map (·.1)) :=
    hrd.keep (by rw [set_size, set_size, set_size]; exact Nat.le_refl _) (fun i hi _ => threeC_heap _ _ _ _ _ _ (show i ≠ R by omega)) (fun i hi _ => by show w.heap.size ≤ i; omega)
  obtain ⟨a, c, rfl⟩ := hrd.val
  obtain ⟨L, hL⟩ : ∃ L, rs.map (·.1) = L := ⟨_, rfl⟩
  rw [hL] at hrd2 ⊢
  have g := h.cmd
  subst hR
  have k2 := ((h.kept.setNew (p := ⟨w.heap.size, 0, none⟩) (Nat.le_refl _) (.int .i64 3)).setNew (p := ⟨w.heap.size, 1, none⟩) (Nat.le_refl _) (.string ⟨#[]⟩)).setNew (p := ⟨w.heap.size, 2, none⟩) (Nat.le_refl _) (.slice a L.length c)
  exact ⟨.mk 3 [] L, a, c, j, n', e', p', rfl, (by show 0 ≤ 1000000; omega), Lib.hid hrd2, Lib.hid (((g.put hw0 (by omega) (by omega) _ _).put hw0 (by omega) (by omega) _ _).put hw0 (by omega) (by omega) _ _), by have := h.lo; omega, h.hi, fun ho => ⟨by have := h.lo; omega, h.num ho⟩, Lib.hid k2⟩
theorem argL_info : (Tryz.prog.info? 92).map (fun i => (i.zero, i.size, i.bytes)) = some (some (.agg #[.int .i64 0, .string ByteArray.empty, .slice none 0 0]), 3, 48) := by kernel_rfl
end Go.Proofs.YtcahhnjponeeeaaGreatDoor
namespace Go.Proofs.YtcahhnjponeeeaaGreatDoor
open Go.RowKit Go.Shelf Go.Sort
set_option linter.unusedSimpArgs false
set_option linter.constructorNameAsVariable false in
set_option maxRecDepth 100000 in
set_option maxHeartbeats 16000000 in
theorem argC_list (d : Int) (hd : 0 ≤ d) (hd6 : d ≤ 6) (ih : ArgSpec (d + 1)) (w0 : World) (C : Nat) (S : List UInt8) (k n : Nat) (e p : Int) (w : World) (hC : 0 ≠ C) (hw : CmdW w0 C S k n e p w) (hS : S.length ≤ 1000000) (hk : k ≤ S.length) (hn60 : n + 1 ≤ 60) (hG : ∀ W, Kept (fun j => j = C) w0 W → StrG W) (b : UInt8) (hs : seeB S k e p = some b) (h40 : (b.toNat : Int) = 40) :
    Calls Tryz.prog 43 #[.pointer (some ⟨C, 0, none⟩), .int .i64 d] w (ArgCS w0 C S k w) := by
  obtain ⟨ho, hkl, hbk⟩ := seeB_some hs
  have hFlt : 0 < w.heap.size := World.block_lt_of_cell? _ _ hw.fine.1
  have hClt : C < w.heap.size := (Array.getElem?_eq_some_iff.1 hw.cmd).1
  have h0 := hw.base.size
  have ts := text_size S
  have HG := Lib.hid hG
  clear hG
  obtain ⟨w1, hw1⟩ : ∃ w1, w.alloc (.cells #[.int .i64 0, .string ⟨#[]⟩, .slice none 0 0] 92) = w1 := ⟨_, rfl⟩
  have y1 : Below w.heap.size w w1 := hw1 ▸ (Below.refl _ _).alloc (Nat.le_refl _) _
  have z1 : w1.heap[w.heap.size]? = some (.cells #[.int .i64 0, .string ⟨#[]⟩, .slice none 0 0] 92 (0, 0)) := hw1 ▸ World.heap_alloc_new w _
  have g1 := hw.under y1
  have k1 : Kept (fun j => j = C) w w1 := kept_below y1
  obtain ⟨R, hR⟩ : ∃ R, w.heap.size = R := ⟨_, rfl⟩
  obtain ⟨c0, c1, c2, c3, c4⟩ := five_cellsC g1.cmd
  have hRC : C ≠ R := by omega
  have f1 := Lib.frozen_of_heap g1.cmd
  obtain ⟨w2, hw2⟩ : ∃ w2, w1.setCell ⟨C, 2, none⟩ (.int .i64 ((n : Int) + 1)) = w2 := ⟨_, rfl⟩
  have hc2 : CmdC w2 C S k (n + 1) e p := hw2 ▸ set5_2 g1.cmd
  have kk2 : Kept (fun j => j = C) w1 w2 := hw2 ▸ (show Kept (fun j => j = C) w1 w1 from Kept.refl _ _).set (p := ⟨C, 2, none⟩) (fun _ => rfl) _
  have g2 := g1.next kk2 hc2 hC
  have k2 := k1.trans kk2
  have z2 := kk2.obj z1 (fun e => hRC (e.symm.trans hR))
  rw [hR] at z2
  have HDONE : Hid (∀ {k' n' : Nat} {e' p' : Int} {W : World} (kd : Int) (B : ByteArray), CmdW w0 C S k' n' e' p' W → Kept (fun j => j = C) w W → B.size ≤ 1000000 → k ≤ k' → k' ≤ S.length → (okC e' p' = true → k < k' ∧ n' ≤ 60) → ArgCS w0 C S k w (.returned (.agg #[.int .i64 kd, .string B, .slice none 0 0])) (((W.setCell ⟨R, 0, none⟩ (.int .i64 kd)).setCell ⟨R, 1, none⟩ (.string B)).setCell ⟨R, 2, none⟩ (.slice none 0 0))) :=
    Lib.hid fun kd B g hK hB a1 a2 a3 => hR ▸ ArgCS.done h0 hClt hFlt g hK kd B hB a1 a2 a3
  have Z2 := Lib.hid z2
  have K2 := Lib.hid k2
  have G2 := Lib.hid g2
  have hR' := hR
  clear hR g1 k1 z1 y1 z2 k2 g2 kk2
  have hw0R : w0.heap.size ≤ R := by omega
  have hFR : 0 < R := by omega
  have hCR : C < R := by omega
  have hl1 : ¬ (60 : Int) < (n : Int) + 1 := by omega
  have hl2 : ¬ (6 : Int) < d := by omega
  have cS2 := seeC_some hs C (n + 1) w2 hc2 G2.out.fine hS (by omega)
  rw [h40] at cS2
  clear HDONE hs hbk
  go_enter Tryz.func43, Tryz.ntmps43
  go_upto_region 1 with fail
  go_upto_region 2 with fail
  clear hw1 hw2 c0 c1 c2 c3 c4 f1
  obtain ⟨c0, c1, c2, c3, c4⟩ := five_cellsC hc2
  go_upto_region 22 with (go_at_call 65; (((with_reducible refine cS2.mono ?_); rintro e' w4 ⟨rfl, m, hw4⟩; have h4 : Below w2.heap.size w2 w4 := hw4 ▸ below_drewN (Below.refl _ _) m; clear hw4; have g4 := G2.out.under h4; have z4 := below_same h4 Z2.out; have K4 := K2.out.trans (kept_below h4))))
  clear c0 c1 c2 c3 c4 hc2 cS2
  obtain ⟨c0, c1, c2, c3, c4⟩ := five_cellsC g4.cmd
  have fz4 := Lib.frozen_of_heap g4.cmd
  go_upto_region 23 with fail
  have hc5 : CmdC (w4.setCell ⟨C, 1, none⟩ (.int .i64 ((k : Int) + 1))) C S (k + 1) (n + 1) e p := set5_1 g4.cmd
  have k5 : Kept (fun j => j = C) w4 (w4.setCell ⟨C, 1, none⟩ (.int .i64 ((k : Int) + 1))) := (show Kept (fun j => j = C) w4 w4 from Kept.refl _ _).set (p := ⟨C, 1, none⟩) (fun _ => rfl) _
  have g5 := g4.next k5 hc5 hC
  have z5 := k5.obj z4 (fun e => hRC e.symm)
  have K5 := K4.trans k5
  generalize w4.setCell ⟨C, 1, none⟩ (.int .i64 ((k : Int) + 1)) = w5 at g5 z5 K5 ⊢
  clear c0 c1 c2 c3 c4 fz4 h4 g4 z4 K4 k5 hc5
  go_wp2_with fail
  obtain ⟨w6, hw6⟩ : ∃ w6, w5.alloc (.cells #[.int .i64 3, .string ⟨#[]⟩, .slice none 0 0] 92) = w6 := ⟨_, rfl⟩
  rw [hw6]
  have y6 : Below w5.heap.size w5 w6 := hw6 ▸ (Below.refl _ _).alloc (Nat.le_refl _) _
  have a6 : w6.heap[w5.heap.size]? = some (.cells #[.int .i64 3, .string ⟨#[]⟩, .slice none 0 0] 92 (0, 0)) := hw6 ▸ World.heap_alloc_new w5 _
  have hRl := (Array.getElem?_eq_some_iff.1 z5).1
  obtain ⟨A, hA⟩ : ∃ A, w5.heap.size = A := ⟨_, rfl⟩
  rw [hA] at a6 ⊢
  have hRA : R < A := by omega
  have hCA : C < A := by omega
  have HL6 : Hid (LstC w0 w C A R S k [] (.slice none 0 0) (k + 1) (n + 1) e p w6) := Lib.hid ⟨g5.under y6, Nat.le_refl _, by omega, fun _ => hn60, World.ownsRow_nil _ _ _ _, a6, below_same y6 z5, (fun x hx => by cases hx), K5.trans (kept_below y6), Nat.zero_le _⟩
  clear g5 z5 K5 y6 a6 hRl hw6 hA
  go_loopg [12, 13] (S.length - (k + 1) + 1) (fun g s12 s13 wr => ∃ (j n' : Nat) (e' p' : Int) (rs : List (Wd × Value)) (va : Option Addr) (vc : Nat), Hid (LstC w0 w C A R S k rs (.slice va rs.length vc) j n' e' p' wr) ∧ S.length - j + (if okC e' p' = true then 1 else 0) ≤ g)
  case atStart => exact ⟨k + 1, n + 1, e, p, [], none, 0, HL6, by rw [ho]; simp⟩
  case round =>
    obtain ⟨j, n', e', p', rs, va, vc, HL, hgk⟩ := hrel
    clear HL6
    have hL := HL.out
    have cO := okC_any C S j n' e' p' wr hL.cmd.cmd hL.cmd.fine
    cases ho' : okC e' p' with
    | false =>
      rw [ho'] at cO
      clear ho' hgk
      go_wp2_with (go_at_call 40; (((with_reducible refine cO.mono ?_); rintro e4 w7 ⟨rfl, m7, hw7⟩; have h7 : Below wr.heap.size wr w7 := hw7 ▸ below_drewN (Below.refl _ _) m7; clear hw7; have hL7 := hL.under hCA hC h7; obtain ⟨a0, a1, a2⟩ := three_cells hL7.cell; obtain ⟨r0, r1, r2⟩ := three_cells hL7.res; have fz := Lib.frozen_of_heap hL7.res)))
      exact bodyPost_ret (results_cell_row (P := Tryz.prog) rfl _ _ R _ _ _ _ rfl (set_thr hL7.res _ _ _) Tryz.underlying92 rfl argC_size) rfl (hL7.done hCR hRA hw0R hR'.symm hFR)
    | true =>
      rw [ho'] at cO
      rw [if_pos ho'] at hgk
      obtain ⟨g', rfl⟩ : ∃ g', gk = g' + 1 := ⟨gk - 1, by omega⟩
      obtain ⟨b4, b5, hv, H45⟩ := see_parts S j e' p'
      have hj1 := hL.hi
      have cS1 := fun W (h : CmdC W C S j n' e' p') (hF : FineG W) => seeC_any C S j n' e' p' W h hF hS (by omega)
      rw [hv] at cS1
      clear hv
      go_upto_region 26 with (first
        | (go_at_call 40; (((with_reducible refine cO.mono ?_); rintro e4 w7 ⟨rfl, m7, hw7⟩; have h7 : Below wr.heap.size wr w7 := hw7 ▸ below_drewN (Below.refl _ _) m7; clear hw7; have hL7 := hL.under hCA hC h7)))
        | (go_at_call 65; (((with_reducible refine (cS1 _ hL7.cmd.cmd hL7.cmd.fine).mono ?_); rintro e4 w8 ⟨rfl, m8, hw8⟩; have h8 : Below w7.heap.size w7 w8 := hw8 ▸ below_drewN (Below.refl _ _) m8; clear hw8; have HL8 := Lib.hid (hL7.under hCA hC h8)))))
      clear cO cS1 hL7 h7 h8 hL HL
      go_cut [162] (fun s162 wx => ∃ T : Bool, s162 = .bool T ∧ Hid (T = true → j + 2 < S.length) ∧ w8 = wx)
      case first =>
        rcases H45.out with ⟨hn1, rfl, rfl⟩ | ⟨b, hb, rfl, rfl⟩
        · clear H45
          go_wp2_with fail
          go_meet
          exact ⟨false, rfl, Lib.hid (fun h => by cases h), rfl⟩
        · have hb2 := (seeB_some hb).2.1
          clear H45 hb
          by_cases h41 : (b.toNat : Int) = 41
          · have e41 : ((b.toNat : Int) == 41) = true := by rw [h41]; rfl
            have d41 : decide ((b.toNat : Int) = 41) = true := decide_eq_true h41
            clear h41
            go_wp2_with fail
            go_meet
            exact ⟨true, rfl, Lib.hid (fun _ => hb2), rfl⟩
          · have e41 : ((b.toNat : Int) == 41) = false := by rw [beq_eq_false_iff_ne]; exact h41
            have d41 : decide ((b.toNat : Int) = 41) = false := decide_eq_false h41
            go_wp2_with fail
            go_meet
            exact ⟨false, rfl, Lib.hid (fun h => by cases h), rfl⟩
      case rest =>
        obtain ⟨T, rfl, HT, rfl⟩ := hcut
        clear H45
        cases T with
        | true =>
          have hj2 := HT.out rfl
          have hL8 := HL8.out
          obtain ⟨c0, c1, c2, c3, c4⟩ := five_cellsC hL8.cmd.cmd
          have fz8 := Lib.frozen_of_heap hL8.cmd.cmd
          have hc9 : CmdC (w8.setCell ⟨C, 1, none⟩ (.int .i64 ((j : Int) + 1))) C S (j + 1) n' e' p' := set5_1 hL8.cmd.cmd
          have k9 : Kept (fun i => i = C) w8 (w8.setCell ⟨C, 1, none⟩ (.int .i64 ((j : Int) + 1))) := (show Kept (fun i => i = C) w8 w8 from Kept.refl _ _).set (p := ⟨C, 1, none⟩) (fun _ => rfl) _
          have hL9 := hL8.call hCA hC k9 hc9 (Nat.le_succ _) (by omega) hL8.num
          obtain ⟨w9, hw9⟩ : ∃ w9, w8.setCell ⟨C, 1, none⟩ (.int .i64 ((j : Int) + 1)) = w9 := ⟨_, rfl⟩
          rw [hw9] at hL9
          clear hL8 hc9 k9
          obtain ⟨a0, a1, a2⟩ := three_cells hL9.cell
          obtain ⟨r0, r1, r2⟩ := three_cells hL9.res
          have fz := Lib.frozen_of_heap hL9.res
          go_wp2_with fail
          exact bodyPost_ret (results_cell_row (P := Tryz.prog) rfl _ _ R _ _ _ _ rfl (set_thr hL9.res _ _ _) Tryz.underlying92 rfl argC_size) rfl (hL9.done hCR hRA hw0R hR'.symm hFR)
        | false =>
          clear HT
          have hL8 := HL8.out
          have a2 := (three_cells hL8.cell).2.2
          go_upto_if 173 with fail
          go_cut [] (fun wx => ∃ (j2 : Nat) (e2 p2 : Int), Hid (LstC w0 w C A R S k rs (.slice va rs.length vc) j2 n' e2 p2 wx) ∧ j ≤ j2 ∧ Hid (okC e2 p2 = true → rs.length + 1 ≤ j2))
          case first =>
            by_cases hr0 : 0 < rs.length
            · have hr0z : (0 : Int) < (rs.length : Int) := by omega
              have cGp := gapC_any w8 C hC S j n' e' p' w8 ⟨Kept.refl _ _, hL8.cmd.cmd, hL8.cmd.fine⟩ hS hL8.hi
              go_wp2_with (go_at_call 41; (((with_reducible refine cGp.mono ?_); rintro e4 w9 ⟨rfl, j2, e2, p2, g9, hj12, hj2, ho2⟩)))
              go_meet
              exact ⟨j2, e2, p2, Lib.hid (hL8.call hCA hC g9.base g9.cmd hj12 hj2 (fun h => hL8.num ho')), hj12, Lib.hid (fun h => by have := ho2 h; have := hL8.many; omega)⟩
            · have hr1 : ¬ (0 : Int) < (rs.length : Int) := by omega
              go_wp2_with fail
              go_meet
              exact ⟨j, e', p', HL8, Nat.le_refl _, Lib.hid (fun _ => by have := hL8.lo; omega)⟩
          case rest =>
            obtain ⟨j2, e2, p2, HL9, hj12, HM⟩ := hcut
            clear HL8 hL8 a2
            have hL2' := HL9.out
            have cO2 := okC_any C S j2 n' e2 p2 _ hL2'.cmd.cmd hL2'.cmd.fine
            cases ho2 : okC e2 p2 with
            | false =>
              rw [ho2] at cO2
              go_wp2_with (go_at_call 40; (((with_reducible refine cO2.mono ?_); rintro e4 w9 ⟨rfl, m9, hw9⟩; have h9 : Below wc.heap.size wc w9 := hw9 ▸ below_drewN (Below.refl _ _) m9; clear hw9; have HL10 := Lib.hid (hL2'.under hCA hC h9))))
              go_roundg g'
              case measure => omega
              case rel => exact ⟨j2, n', e2, p2, rs, va, vc, HL10, by rw [ho2]; simp only [Bool.false_eq_true, if_false]; omega⟩
            | true =>
              rw [ho2] at cO2
              have hrj := HM.out ho2
              go_upto_region 31 with (go_at_call 40; (((with_reducible refine cO2.mono ?_); rintro e4 w9 ⟨rfl, m9, hw9⟩; have h9 : Below wc.heap.size wc w9 := hw9 ▸ below_drewN (Below.refl _ _) m9; clear hw9; have hL2 := hL2'.under hCA hC h9)))
              have hLE : hL2'.hi = hL2'.hi := rfl
              clear cO2 h9 hL2' hLE HL9 HM
              have hwd : IntKind.i64.wrap ((d : Int) + 1) = (d : Int) + 1 := IntWalk.i64_in _ (by omega)
              have hLd := hL2.under hCA hC (Below.refl _ w9).drew
              have hS0 : (fun _ : World => True) w9.drew := trivial
              have hS1 : (fun W : World => W.cell? ⟨A, 2, none⟩ = some (.slice va rs.length vc)) w9.drew := (three_cells hLd.cell).2.2
              have cA := ih w0 C S j2 n' e2 p2 w9.drew hC hLd.cmd hS hLd.hi ho2 (hLd.num ho2) HG.out
              obtain ⟨i0, hi, hz0, hz1, hz2⟩ := info_parts argL_info
              have HLD := Lib.hid hLd
              clear hLd hL2
              go_upto_region 31 with fail
              refine until_start (S := fun W => W.cell? ⟨A, 2, none⟩ = some (.slice va rs.length vc)) (S0 := fun _ => True) (t := 9) (by kernel_rfl) ?_
              generalize w9.drew = wd at *
              refine until_take0 (i := 0) (v := ?v0) rfl (by kernel_rfl) (by kernel_rfl) (by kernel_rfl) (by rfl) (fun _ _ _ h => h) (Or.inl ⟨by rfl, ?y0⟩) hS0 (fun _ => hS1) ?r0
              case y0 => (intro W hSw; (try dsimp only at hSw); go_simp; try with_reducible rfl)
              try simp only [Act.put, List.setIfInBounds_toArray, List.set_cons_zero, List.set_cons_succ]
              refine until_take (i := 1) (v := ?v1) rfl (by kernel_rfl) (by kernel_rfl) (by kernel_rfl) (by kernel_rfl) (fun _ _ _ h => h) (Or.inl ⟨by rfl, ?y1⟩) hS0 hS1 ?r1
              case y1 => (intro W hSw; (try dsimp only at hSw); go_simp; try with_reducible rfl)
              try simp only [Act.put, List.setIfInBounds_toArray, List.set_cons_zero, List.set_cons_succ]
              refine until_take0 (i := 2) (v := ?v2) rfl (by kernel_rfl) (by kernel_rfl) (by kernel_rfl) (by rfl) (fun _ _ _ h => h) (Or.inl ⟨by rfl, ?y2⟩) hS0 (fun _ => hS1) ?r2
              case y2 => (intro W hSw; (try dsimp only at hSw); go_simp; try with_reducible rfl)
              try simp only [Act.put, List.setIfInBounds_toArray, List.set_cons_zero, List.set_cons_succ]
              refine until_take0 (i := 3) (v := ?v3) rfl (by kernel_rfl) (by kernel_rfl) (by kernel_rfl) (by rfl) (fun _ _ _ h => h) (Or.inl ⟨by rfl, ?y3⟩) hS0 (fun _ => hS1) ?r3
              case y3 => (intro W hSw; (try dsimp only at hSw); go_simp; try with_reducible rfl)
              try simp only [Act.put, List.setIfInBounds_toArray, List.set_cons_zero, List.set_cons_succ]
              refine until_take0 (i := 4) (v := ?v4) rfl (by kernel_rfl) (by kernel_rfl) (by kernel_rfl) (by rfl) (fun _ _ _ h => h) (Or.inl ⟨by rfl, ?y4⟩) hS0 (fun _ => hS1) ?r4
              case y4 => (intro W hSw; (try dsimp only at hSw); go_simp; try with_reducible rfl)
              try simp only [Act.put, List.setIfInBounds_toArray, List.set_cons_zero, List.set_cons_succ]
              refine until_step (i := 5) (by kernel_rfl) rfl (fun K hK => ?_)
              go_simp
              (with_reducible refine cA.mono ?_)
              rintro e4 w10 ⟨x, xa, xc, j3, n3, e3, p3, rfl, hxl, HWL, HG4, hj23, hj3, ho3, HK4⟩
              have hL4 := HLD.out.call hCA hC HK4.out HG4.out.cmd hj23 hj3 (fun h => (ho3 h).2)
              have HL4 := Lib.hid hL4
              have HO3 := Lib.hid (fun h => (ho3 h).1)
              have HD2 := Lib.hid (three_cells hL4.cell).2.2
              have HSD : Hid (A < wd.heap.size ∧ ∀ g, (Value.slice va rs.length vc).ownBlock = some g → g < wd.heap.size) := Lib.hid ⟨(Array.getElem?_eq_some_iff.1 HLD.out.cell).1, fun g e => (HLD.out.own.lt g e).2⟩
              have hlx := HLD.out.many
              clear hL4 cA hS0 hS1 HG4 HK4 ho3
              go_wp2_with fail
              refine hK.out _ _ trivial (fun _ _ => HD2.out) ?_
              clear hK K
              try simp only [Act.put, List.setIfInBounds_toArray, List.set_cons_zero, List.set_cons_succ]
              have hBa := alloc_at (o := (.cells #[.int .i64 x.kind, .string ⟨x.text.toArray⟩, .slice xa x.list.length xc] 92)) HL4.out.cell
              have hoa := HL4.out.own.alloc (.cells #[.int .i64 x.kind, .string ⟨x.text.toArray⟩, .slice xa x.list.length xc] 92)
              have hN := World.news_of_block (World.heap_alloc_new w10 (.cells #[.int .i64 x.kind, .string ⟨x.text.toArray⟩, .slice xa x.list.length xc] 92))
              have hsa := alloc_size w10 (.cells #[.int .i64 x.kind, .string ⟨x.text.toArray⟩, .slice xa x.list.length xc] 92)
              have hU4 := (Array.getElem?_eq_some_iff.1 HL4.out.cell).1
              have hba : A + 1 ≤ (w10.alloc (.cells #[.int .i64 x.kind, .string ⟨x.text.toArray⟩, .slice xa x.list.length xc] 92)).heap.size := by rw [hsa]; omega
              have HBA := Lib.hid hBa; have HOA := Lib.hid hoa; have HN := Lib.hid hN; have HSA := Lib.hid hsa
              clear hBa hoa hN hsa
              refine until_step (i := 6) (by kernel_rfl) rfl (fun K hK => ?_)
              go_simp
              refine hK.out _ _ trivial (fun _ _ => (three_cells HBA.out).2.2) ?_
              clear hK K
              try simp only [Act.put, List.setIfInBounds_toArray, List.set_cons_zero, List.set_cons_succ]
              refine until_step (i := 7) (by kernel_rfl) rfl (fun K hK => ?_)
              refine step_append_lies _ (by rfl) (.tmp 179) (.tmp 184) 25 (by rfl) (A + 1) 92 i0 _ 3 48 Tryz.underlying25 hi hz0 hz1 hz2 (by rfl) (by omega) (.slice va rs.length vc) rs.length (wdCells rs) (by rfl) HOA.out ⟨w10.heap.size, 0, none⟩ 1 1 [.int .i64 x.kind, .string ⟨x.text.toArray⟩, .slice xa x.list.length xc] (by rfl) (by rfl) HN.out (by intro u hu; simp only [List.mem_cons, List.not_mem_nil, or_false] at hu; rcases hu with rfl | rfl | rfl <;> rfl) (by omega) (by unfold maxLen; omega) (by omega) hba (w10.heap.size + 1) HSA.out ?_
              intro g2 cap2 w11 ho6 hg6 hat6 hl6
              have hU6 : w11.heap[A]? = some (.cells #[.int .i64 3, .string ⟨#[]⟩, .slice va rs.length vc] 92 (0, 0)) := (hg6.block A (by rw [HSA.out]; omega) (fun e => by have := (HL4.out.own.lt A e.symm).1; omega)).trans HBA.out
              have hL7 := HL4.out.push hCR hRA hw0R hR'.symm hFR (by omega) x (.slice xa x.list.length xc) wd.heap.size HSD.out.1 HSD.out.2 hxl HWL.out ho6 hg6 hat6
              have f6 : w11.frozen? ⟨A, 2, none⟩ = false := Lib.frozen_of_heap hU6 2
              have d6 := (three_cells hU6).2.2
              have HL7 := Lib.hid hL7
              have HU6 := Lib.hid hU6
              clear hL7 ho6 hg6 hat6 hl6 HOA HN HBA hba hU6
              refine hK.out _ _ trivial (fun _ _ => (three_cells HU6.out).2.2) ?_
              clear hK K
              try simp only [Act.put, List.setIfInBounds_toArray, List.set_cons_zero, List.set_cons_succ]
              refine until_step (i := 8) (by kernel_rfl) rfl (fun K hK => ?_)
              go_simp
              refine hK.out _ _ trivial (fun _ _ => (three_cells HU6.out).2.2) ?_
              clear hK K
              try simp only [Act.put, List.setIfInBounds_toArray, List.set_cons_zero, List.set_cons_succ]
              refine until_step (i := 9) (by kernel_rfl) rfl (fun K hK => ?_)
              go_simp
              refine hK.out _ _ trivial (fun h _ => absurd rfl h) ?_
              clear hK K
              try simp only [Act.put, List.setIfInBounds_toArray, List.set_cons_zero, List.set_cons_succ]
              refine until_done (by kernel_rfl) ?_ _
              go_wp2_with fail
              go_roundg g'
              case measure => omega
              case rel =>
                have hlen : (rs ++ [(x, Value.slice xa x.list.length xc)]).length = rs.length + 1 := by simp
                refine ⟨j3, n3, e3, p3, rs ++ [(x, Value.slice xa x.list.length xc)], some ⟨g2, 0, none⟩, cap2, by rw [hlen]; exact HL7, ?_⟩
                cases h3 : okC e3 p3 with
                | true =>
                  have := HO3.out h3
                  simp only [if_true]
                  omega
                | false =>
                  simp only [Bool.false_eq_true, if_false]
                  omega
end Go.Proofs.YtcahhnjponeeeaaGreatDoor
namespace Go.Proofs.YtcahhnjponeeeaaGreatDoor
open Go.RowKit Go.Shelf Go.Sort
set_option linter.unusedSimpArgs false
set_option linter.constructorNameAsVariable false in
set_option maxRecDepth 100000 in
set_option maxHeartbeats 16000000 in
theorem argC_step (d : Int) (hd : 0 ≤ d) (hd7 : d ≤ 7) (ih : d ≤ 6 → ArgSpec (d + 1)) : ArgSpec d := by
  intro w0 C S k n e p w hC hw hS hk ho hn hG
  have hFlt : 0 < w.heap.size := World.block_lt_of_cell? _ _ hw.fine.1
  have hClt : C < w.heap.size := (Array.getElem?_eq_some_iff.1 hw.cmd).1
  have h0 := hw.base.size
  have ts := text_size S
  have HG := Lib.hid hG
  clear hG
  obtain ⟨w1, hw1⟩ : ∃ w1, w.alloc (.cells #[.int .i64 0, .string ⟨#[]⟩, .slice none 0 0] 92) = w1 := ⟨_, rfl⟩
  have y1 : Below w.heap.size w w1 := hw1 ▸ (Below.refl _ _).alloc (Nat.le_refl _) _
  have z1 : w1.heap[w.heap.size]? = some (.cells #[.int .i64 0, .string ⟨#[]⟩, .slice none 0 0] 92 (0, 0)) := hw1 ▸ World.heap_alloc_new w _
  have g1 := hw.under y1
  have k1 : Kept (fun j => j = C) w w1 := kept_below y1
  obtain ⟨R, hR⟩ : ∃ R, w.heap.size = R := ⟨_, rfl⟩
  obtain ⟨c0, c1, c2, c3, c4⟩ := five_cellsC g1.cmd
  have hRC : C ≠ R := by omega
  have f1 := Lib.frozen_of_heap g1.cmd
  obtain ⟨w2, hw2⟩ : ∃ w2, w1.setCell ⟨C, 2, none⟩ (.int .i64 ((n : Int) + 1)) = w2 := ⟨_, rfl⟩
  have hc2 : CmdC w2 C S k (n + 1) e p := hw2 ▸ set5_2 g1.cmd
  have kk2 : Kept (fun j => j = C) w1 w2 := hw2 ▸ (show Kept (fun j => j = C) w1 w1 from Kept.refl _ _).set (p := ⟨C, 2, none⟩) (fun _ => rfl) _
  have g2 := g1.next kk2 hc2 hC
  have k2 := k1.trans kk2
  have z2 := kk2.obj z1 (fun e => hRC (e.symm.trans hR))
  rw [hR] at z2
  have HDONE : Hid (∀ {k' n' : Nat} {e' p' : Int} {W : World} (kd : Int) (B : ByteArray), CmdW w0 C S k' n' e' p' W → Kept (fun j => j = C) w W → B.size ≤ 1000000 → k ≤ k' → k' ≤ S.length → (okC e' p' = true → k < k' ∧ n' ≤ 60) → ArgCS w0 C S k w (.returned (.agg #[.int .i64 kd, .string B, .slice none 0 0])) (((W.setCell ⟨R, 0, none⟩ (.int .i64 kd)).setCell ⟨R, 1, none⟩ (.string B)).setCell ⟨R, 2, none⟩ (.slice none 0 0))) :=
    Lib.hid fun kd B g hK hB a1 a2 a3 => hR ▸ ArgCS.done h0 hClt hFlt g hK kd B hB a1 a2 a3
  have Z2 := Lib.hid z2
  have K2 := Lib.hid k2
  have G2 := Lib.hid g2
  have hR' := hR
  clear hR g1 k1 z1 y1 z2 k2 g2 kk2
  by_cases hlim : n + 1 ≤ 60 ∧ d ≤ 6
  · obtain ⟨hn60, hd6⟩ := hlim
    have hl1 : ¬ (60 : Int) < (n : Int) + 1 := by omega
    have hl2 : ¬ (6 : Int) < d := by omega
    have ih := ih hd6
    cases hs : seeB S k e p with
    | none =>
      have cS2 := seeC_none hs C (n + 1) w2 hc2 G2.out.fine hS (by omega)
      clear ih
      go_enter Tryz.func43, Tryz.ntmps43
      go_upto_region 1 with fail
      go_upto_region 2 with fail
      clear hw1 hw2 c0 c1 c2 c3 c4 f1
      obtain ⟨c0, c1, c2, c3, c4⟩ := five_cellsC hc2
      go_wp2_with (first
        | (go_at_call 65; (((with_reducible refine cS2.mono ?_); rintro e' w4 ⟨rfl, m, hw4⟩; have h4 : Below w2.heap.size w2 w4 := hw4 ▸ below_drewN (Below.refl _ _) m; clear hw4; have g4 := G2.out.under h4; have z4 := below_same h4 Z2.out; have K4 := K2.out.trans (kept_below h4); have cF4 := failC_any C S k (n + 1) _ _ 3 w4 g4.cmd g4.fine)))
        | (go_at_call 44; (((with_reducible refine cF4.mono ?_); rintro e' w5 ⟨rfl, hc5, hk5⟩; have g5 := g4.next hk5 hc5 hC; have z5 := hk5.obj z4 (fun e => hRC e.symm); have K5 := K4.trans hk5; obtain ⟨r0, r1, r2⟩ := three_cells z5; have fz := Lib.frozen_of_heap z5))))
      exact bodyPost_ret (results_cell_row (P := Tryz.prog) rfl _ _ R _ _ _ _ rfl (set_thr z5 _ _ _) Tryz.underlying92 rfl argC_size) rfl (HDONE.out _ _ g5 K5 (by decide) (Nat.le_refl _) hk (fun h => absurd h (by rw [fail_noE]; decide)))
    | some b =>
      have cS2 := seeC_some hs C (n + 1) w2 hc2 G2.out.fine hS (by omega)
      obtain ⟨-, hkl, hbk⟩ := seeB_some hs
      have hs0 := hs
      clear hs
      by_cases h34 : (b.toNat : Int) = 34
      · rw [h34] at cS2
        clear ih
        go_enter Tryz.func43, Tryz.ntmps43
        go_upto_region 1 with fail
        go_upto_region 2 with fail
        clear hw1 hw2 c0 c1 c2 c3 c4 f1
        obtain ⟨c0, c1, c2, c3, c4⟩ := five_cellsC hc2
        go_wp2_with (first
          | (go_at_call 65; (((with_reducible refine cS2.mono ?_); rintro e' w4 ⟨rfl, m, hw4⟩; have h4 : Below w2.heap.size w2 w4 := hw4 ▸ below_drewN (Below.refl _ _) m; clear hw4; have g4 := G2.out.under h4; have z4 := below_same h4 Z2.out; have K4 := K2.out.trans (kept_below h4); have cQ := quotedC_any w4 C hC S k (n + 1) e p w4 ⟨Kept.refl _ _, g4.cmd, g4.fine⟩ hS (by omega))))
          | (go_at_call 67; (((with_reducible refine cQ.mono ?_); rintro e' w5 ⟨B, k', e2, p2, rfl, hB, g5', hkk, hkk2⟩; have g5 := g4.next g5'.base g5'.cmd hC; have z5 := g5'.base.obj z4 (fun e => hRC e.symm); have K5 := K4.trans g5'.base; obtain ⟨r0, r1, r2⟩ := three_cells z5; have fz := Lib.frozen_of_heap z5))))
        exact bodyPost_ret (results_cell_row (P := Tryz.prog) rfl _ _ R _ _ _ _ rfl (set_thr z5 _ _ _) Tryz.underlying92 rfl argC_size) rfl (HDONE.out _ _ g5 K5 (by omega) (Nat.le_of_lt hkk) hkk2 (fun _ => ⟨hkk, hn60⟩))
      have e34 : ((b.toNat : Int) == 34) = false := by rw [beq_eq_false_iff_ne]; exact h34
      have d34 : decide ((b.toNat : Int) = 34) = false := decide_eq_false h34
      by_cases h123 : (b.toNat : Int) = 123
      · rw [h123] at cS2
        clear ih e34 d34 h34
        go_enter Tryz.func43, Tryz.ntmps43
        go_upto_region 1 with fail
        go_upto_region 2 with fail
        clear hw1 hw2 c0 c1 c2 c3 c4 f1
        obtain ⟨c0, c1, c2, c3, c4⟩ := five_cellsC hc2
        go_upto_region 11 with (go_at_call 65; (((with_reducible refine cS2.mono ?_); rintro e' w4 ⟨rfl, m, hw4⟩; have h4 : Below w2.heap.size w2 w4 := hw4 ▸ below_drewN (Below.refl _ _) m; clear hw4; have g4 := G2.out.under h4; have z4 := below_same h4 Z2.out; have K4 := K2.out.trans (kept_below h4))))
        clear c0 c1 c2 c3 c4 hc2 cS2
        obtain ⟨c0, c1, c2, c3, c4⟩ := five_cellsC g4.cmd
        obtain ⟨E, hE⟩ : ∃ E, Lib.indexByte (S.drop k) 125 = E := ⟨_, rfl⟩
        have hE1 : -1 ≤ E := hE ▸ Lib.indexByte_ge _ _
        have hE2 : E < (S.length : Int) - (k : Int) := by
          rcases Int.lt_or_le E 0 with h | h
          · omega
          · obtain ⟨o, rfl⟩ := Int.eq_ofNat_of_zero_le h
            have h2 := (Lib.indexByte_some hE).1
            have := (List.getElem?_eq_some_iff.1 h2).1
            rw [List.length_drop] at this
            omega
        have cI : ∀ W, Calls Tryz.prog 62 #[.string ⟨(S.drop k).toArray⟩, .int .u8 125] W fun e w' => e = .returned (.int .i64 E) ∧ w' = W := fun W => hE ▸ Tryz.strings_IndexByte ⟨(S.drop k).toArray⟩ 125 W
        have hpt : (⟨S.toArray⟩ : ByteArray).extract k S.length = ⟨(S.drop k).toArray⟩ := by rw [text_part, List.take_of_length_le (by simp)]
        have hkz : (k : Int) ≤ (S.length : Int) := by omega
        clear hE
        go_quiet ((go_at_call 62; exact Calls.quiet_of_same (cI _)))
        have g5 := g4.under (below_drewN (Below.refl _ w4) nq)
        have z5 := below_same (below_drewN (Below.refl _ w4) nq) z4
        have K5 := K4.trans (kept_below (below_drewN (Below.refl _ w4) nq))
        generalize w4.drewN nq = w5 at g5 z5 K5 ⊢
        clear c0 c1 c2 c3 c4 h4 g4 z4 K4 cI hpt
        go_upto_if 63 with fail
        go_cut [8, 9] (fun s8 s9 wx => ∃ (v : Int) (bb : Bool), s8 = .int .i64 v ∧ s9 = .bool bb ∧ Hid (bb = true → 0 < E ∧ 0 ≤ v ∧ v ≤ 4611686018427387904) ∧ Hid (Below w5.heap.size w5 wx))
        case first =>
          by_cases hE0 : 0 < E
          · obtain ⟨o, rfl⟩ : ∃ o : Nat, E = (o : Int) := ⟨E.toNat, by omega⟩
            obtain ⟨t, ht⟩ : ∃ t, (S.drop (k + 1)).take (k + o - (k + 1)) = t := ⟨_, rfl⟩
            have hpt2 : (⟨S.toArray⟩ : ByteArray).extract (k + 1) (k + o) = ⟨t.toArray⟩ := by rw [text_part, ht]
            have htl : t.length ≤ 2000000 := by rw [← ht, List.length_take, List.length_drop]; omega
            have cN : Calls Tryz.prog 68 #[.string ⟨t.toArray⟩, .int .i64 4611686018427387904] w5.drew fun e w' => ∃ (v : Int) (bb : Bool), e = .returned (.tuple #[.int .i64 v, .bool bb]) ∧ Hid ((bb = true → 0 ≤ v ∧ v ≤ 4611686018427387904) ∧ Below w5.heap.size w5 w') := by
              have hb1 : Below w5.heap.size w5 w5.drew := (Below.refl _ w5).drew
              refine (numM_any t w5.drew htl (HG.out _ (g5.under hb1).base)).mono ?_
              rintro e w' ⟨v, bb, rfl, h1, h2⟩
              exact ⟨v, bb, rfl, Lib.hid ⟨h1, hb1.trans (h2.mono hb1.size)⟩⟩
            obtain ⟨x, hx⟩ : ∃ x : Nat, k + 1 = x := ⟨_, rfl⟩
            obtain ⟨y, hy⟩ : ∃ y : Nat, k + o = y := ⟨_, rfl⟩
            rw [hx, hy] at hpt2
            have e1 : IntKind.i64.wrap ((k : Int) + 1) = (x : Int) := by rw [IntWalk.i64_in _ (by omega)]; omega
            have e2 : IntKind.i64.wrap ((k : Int) + (o : Int)) = (y : Int) := by rw [IntWalk.i64_in _ (by omega)]; omega
            have hz0 : (0 : Int) ≤ (x : Int) := by omega
            have hz1 : (x : Int) ≤ (y : Int) := by omega
            have hz2 : (y : Int) ≤ (S.length : Int) := by omega
            have hz3 : (0 : Int) ≤ (y : Int) := by omega
            obtain ⟨c0, c1, c2, c3, c4⟩ := five_cellsC g5.cmd
            clear hx hy
            have hsl : ∀ W : World, (Instr.slice 9 (.string ⟨S.toArray⟩) (some (.int .i64 (x : Int))) (some (.int .i64 (y : Int))) none).run Tryz.prog W = .ok (.string ⟨t.toArray⟩) W := fun W => by
              rw [run_slice_string W 9 ⟨S.toArray⟩ .i64 .i64 _ _ Tryz.underlying9 (by omega) (by omega) (by rw [ts]; omega), Int.toNat_natCast, Int.toNat_natCast, hpt2]
            clear ht hpt2
            go_wp2_with fail
            have hcd : w5.drew.cell? ⟨C, 0, none⟩ = some (.string ⟨S.toArray⟩) ∧ w5.drew.cell? ⟨C, 1, none⟩ = some (.int .i64 (k : Int)) := ⟨c0, c1⟩
            have hck : ∀ w6, Below w5.heap.size w5 w6 → w6.cell? ⟨C, 0, none⟩ = some (.string ⟨S.toArray⟩) ∧ w6.cell? ⟨C, 1, none⟩ = some (.int .i64 (k : Int)) := fun w6 h => by
              obtain ⟨a0, a1, _⟩ := five_cellsC (g5.cmd.below h)
              exact ⟨a0, a1⟩
            go_region_held3 (fun W => W.cell? ⟨C, 0, none⟩ = some (.string ⟨S.toArray⟩) ∧ W.cell? ⟨C, 1, none⟩ = some (.int .i64 (k : Int)))
              (first | exact hcd | exact hcn)
              ((go_at_call 68; (with_reducible refine cN.mono ?_); rintro e' w6 ⟨v, bb, rfl, HX⟩; have hcn := hck w6 HX.out.2))
            go_wp2_with fail
            go_meet
            exact ⟨v, bb, rfl, rfl, Lib.hid (fun h => ⟨hE0, HX.out.1 h⟩), Lib.hid HX.out.2⟩
          · go_wp2_with fail
            go_meet
            exact ⟨0, false, rfl, rfl, Lib.hid (fun h => by cases h), Lib.hid (Below.refl _ _)⟩
        case rest =>
          obtain ⟨v, bb, rfl, rfl, HV, HB6⟩ := hcut
          have g6 := g5.under HB6.out
          have z6 := below_same HB6.out z5
          have K6 := K5.trans (kept_below HB6.out)
          obtain ⟨c0, c1, c2, c3, c4⟩ := five_cellsC g6.cmd
          clear HB6 g5 z5 K5
          cases bb with
          | false =>
            have f1 : IntKind.i64.wrap ((k : Int) + E) = (k : Int) + E := IntWalk.i64_in _ (by omega)
            have f2 : IntKind.i64.wrap ((k : Int) + E + 3) = (k : Int) + E + 3 := IntWalk.i64_in _ (by omega)
            clear HV
            go_upto_region 16 with fail
            go_quiet (fail)
            have y7 : Below wc.heap.size wc (wc.drewN nq) := below_drewN (Below.refl _ _) nq
            have g7 := g6.under y7
            have z7 := below_same y7 z6
            have K7 := K6.trans (kept_below y7)
            generalize wc.drewN nq = w7 at g7 z7 K7 ⊢
            clear c0 c1 c2 c3 c4 g6 z6 K6 y7
            have cF4 := failC_any C S k (n + 1) e p 3 w7 g7.cmd g7.fine
            go_wp2_with (go_at_call 44; (((with_reducible refine cF4.mono ?_); rintro e' w9 ⟨rfl, hc9, hk9⟩; have g9 := g7.next hk9 hc9 hC; have z9 := hk9.obj z7 (fun e => hRC e.symm); have K9 := K7.trans hk9; obtain ⟨r0, r1, r2⟩ := three_cells z9; have fz := Lib.frozen_of_heap z9)))
            exact bodyPost_ret (results_cell_row (P := Tryz.prog) rfl _ _ R _ _ _ _ rfl (set_thr z9 _ _ _) Tryz.underlying92 rfl argC_size) rfl (HDONE.out _ _ g9 K9 (by decide) (Nat.le_refl _) hk (fun h => absurd h (by rw [fail_noE]; decide)))
          | true =>
            obtain ⟨hE0, hv0, hv1⟩ := HV.out rfl
            clear HV
            obtain ⟨o, rfl⟩ : ∃ o : Nat, E = (o : Int) := ⟨E.toNat, by omega⟩
            obtain ⟨u, rfl⟩ : ∃ u : Nat, v = (u : Int) := ⟨v.toNat, by omega⟩
            obtain ⟨z, hz⟩ : ∃ z : Nat, k + o = z := ⟨_, rfl⟩
            obtain ⟨x, hx⟩ : ∃ x : Nat, z + 1 = x := ⟨_, rfl⟩
            obtain ⟨y, hy⟩ : ∃ y : Nat, z + 3 = y := ⟨_, rfl⟩
            have e1 : IntKind.i64.wrap ((k : Int) + (o : Int)) = (z : Int) := by rw [IntWalk.i64_in _ (by omega)]; omega
            have e2 : IntKind.i64.wrap ((z : Int) + 1) = (x : Int) := by rw [IntWalk.i64_in _ (by omega)]; omega
            have e3 : IntKind.i64.wrap ((z : Int) + 3) = (y : Int) := by rw [IntWalk.i64_in _ (by omega)]; omega
            have e4 : IntKind.i64.wrap ((S.length : Int) - (y : Int)) = (S.length : Int) - (y : Int) := IntWalk.i64_in _ (by omega)
            have hx0 : (0 : Int) ≤ (x : Int) := by omega
            have hx1 : (x : Int) ≤ (S.length : Int) := by omega
            have hpt : (⟨S.toArray⟩ : ByteArray).extract x S.length = ⟨(S.drop x).toArray⟩ := by rw [text_part, List.take_of_length_le (by simp)]
            have hsl : ∀ W : World, (Instr.slice 9 (.string ⟨S.toArray⟩) (some (.int .i64 (x : Int))) none none).run Tryz.prog W = .ok (.string ⟨(S.drop x).toArray⟩) W := fun W => by
              rw [run_slice_string_from_if W 9 ⟨S.toArray⟩ .i64 (x : Int) Tryz.underlying9, if_pos (by rw [ts]; constructor <;> omega), ts, Int.toNat_natCast, hpt]
            obtain ⟨P, hP⟩ : ∃ P, Lib.hasPrefix (S.drop x) [13, 10] = P := ⟨_, rfl⟩
            have cP : ∀ W, Calls Tryz.prog 55 #[.string ⟨(S.drop x).toArray⟩, .string ⟨#[13, 10]⟩] W fun e w' => e = .returned (.bool P) ∧ w' = W := fun W => hP ▸ Tryz.strings_HasPrefix ⟨(S.drop x).toArray⟩ ⟨#[13, 10]⟩ W
            have hPl : P = true → y ≤ S.length := fun h => by
              rw [h] at hP
              unfold Lib.hasPrefix at hP
              have := (List.isPrefixOf_iff_prefix.1 hP).length_le
              rw [List.length_drop] at this
              simp at this
              omega
            obtain ⟨TX, hTX⟩ : ∃ t, S.drop x = t := ⟨_, rfl⟩
            rw [hTX] at cP hsl
            clear hP hpt hTX
            cases P with
            | false =>
              clear hPl
              go_upto_region 16 with fail
              go_quiet ((go_at_call 55; exact Calls.quiet_of_same (cP _)))
              have y7 : Below wc.heap.size wc (wc.drewN nq) := below_drewN (Below.refl _ _) nq
              have g7 := g6.under y7
              have z7 := below_same y7 z6
              have K7 := K6.trans (kept_below y7)
              generalize wc.drewN nq = w7 at g7 z7 K7 ⊢
              clear c0 c1 c2 c3 c4 g6 z6 K6 y7
              have cF4 := failC_any C S k (n + 1) e p 3 w7 g7.cmd g7.fine
              go_wp2_with (go_at_call 44; (((with_reducible refine cF4.mono ?_); rintro e' w9 ⟨rfl, hc9, hk9⟩; have g9 := g7.next hk9 hc9 hC; have z9 := hk9.obj z7 (fun e => hRC e.symm); have K9 := K7.trans hk9; obtain ⟨r0, r1, r2⟩ := three_cells z9; have fz := Lib.frozen_of_heap z9)))
              exact bodyPost_ret (results_cell_row (P := Tryz.prog) rfl _ _ R _ _ _ _ rfl (set_thr z9 _ _ _) Tryz.underlying92 rfl argC_size) rfl (HDONE.out _ _ g9 K9 (by decide) (Nat.le_refl _) hk (fun h => absurd h (by rw [fail_noE]; decide)))
            | true =>
              have hyl := hPl rfl
              clear hPl
              by_cases huu : (S.length : Int) - (y : Int) < (u : Int)
              · go_upto_region 16 with fail
                go_quiet ((go_at_call 55; exact Calls.quiet_of_same (cP _)))
                have y7 : Below wc.heap.size wc (wc.drewN nq) := below_drewN (Below.refl _ _) nq
                have g7 := g6.under y7
                have z7 := below_same y7 z6
                have K7 := K6.trans (kept_below y7)
                generalize wc.drewN nq = w7 at g7 z7 K7 ⊢
                clear c0 c1 c2 c3 c4 g6 z6 K6 y7
                have cF4 := failC_any C S k (n + 1) e p 3 w7 g7.cmd g7.fine
                go_wp2_with (go_at_call 44; (((with_reducible refine cF4.mono ?_); rintro e' w9 ⟨rfl, hc9, hk9⟩; have g9 := g7.next hk9 hc9 hC; have z9 := hk9.obj z7 (fun e => hRC e.symm); have K9 := K7.trans hk9; obtain ⟨r0, r1, r2⟩ := three_cells z9; have fz := Lib.frozen_of_heap z9)))
                exact bodyPost_ret (results_cell_row (P := Tryz.prog) rfl _ _ R _ _ _ _ rfl (set_thr z9 _ _ _) Tryz.underlying92 rfl argC_size) rfl (HDONE.out _ _ g9 K9 (by decide) (Nat.le_refl _) hk (fun h => absurd h (by rw [fail_noE]; decide)))
              · obtain ⟨q, hq⟩ : ∃ q : Nat, y + u = q := ⟨_, rfl⟩
                have e5 : IntKind.i64.wrap ((y : Int) + (u : Int)) = (q : Int) := by rw [IntWalk.i64_in _ (by omega)]; omega
                have hq0 : (0 : Int) ≤ (y : Int) := by omega
                have hq1 : (y : Int) ≤ (q : Int) := by omega
                have hq2 : (q : Int) ≤ (S.length : Int) := by omega
                go_upto_region 16 with fail
                go_quiet ((go_at_call 55; exact Calls.quiet_of_same (cP _)))
                have y7 : Below wc.heap.size wc (wc.drewN nq) := below_drewN (Below.refl _ _) nq
                have g7 := g6.under y7
                have z7 := below_same y7 z6
                have K7 := K6.trans (kept_below y7)
                generalize wc.drewN nq = w7 at g7 z7 K7 ⊢
                clear c0 c1 c2 c3 c4 g6 z6 K6 y7
                obtain ⟨c0, c1, c2, c3, c4⟩ := five_cellsC g7.cmd
                have fz7 := Lib.frozen_of_heap g7.cmd
                go_upto_region 20 with fail
                have hc8 : CmdC (w7.setCell ⟨C, 1, none⟩ (.int .i64 (q : Int))) C S q (n + 1) e p := set5_1 g7.cmd
                have k8 : Kept (fun j => j = C) w7 (w7.setCell ⟨C, 1, none⟩ (.int .i64 (q : Int))) := (show Kept (fun j => j = C) w7 w7 from Kept.refl _ _).set (p := ⟨C, 1, none⟩) (fun _ => rfl) _
                have g8 := g7.next k8 hc8 hC
                have z8 := k8.obj z7 (fun e => hRC e.symm)
                have K8 := K7.trans k8
                generalize w7.setCell ⟨C, 1, none⟩ (.int .i64 (q : Int)) = w8 at g8 z8 K8 hc8 ⊢
                clear c0 c1 c2 c3 c4 fz7 g7 z7 K7 k8
                obtain ⟨c0, c1, c2, c3, c4⟩ := five_cellsC hc8
                obtain ⟨r0, r1, r2⟩ := three_cells z8
                have fz := Lib.frozen_of_heap z8
                obtain ⟨t2, ht2⟩ : ∃ t, (S.drop y).take (q - y) = t := ⟨_, rfl⟩
                have hsl2 : ∀ W : World, (Instr.slice 9 (.string ⟨S.toArray⟩) (some (.int .i64 (y : Int))) (some (.int .i64 (q : Int))) none).run Tryz.prog W = .ok (.string ⟨t2.toArray⟩) W := fun W => by
                  rw [run_slice_string W 9 ⟨S.toArray⟩ .i64 .i64 _ _ Tryz.underlying9 (by omega) (by omega) (by rw [ts]; omega), Int.toNat_natCast, Int.toNat_natCast, text_part, ht2]
                have ht2l : t2.length ≤ 1000000 := by rw [← ht2, List.length_take, List.length_drop]; omega
                have tt2 := text_size t2
                have yd : Below w8.heap.size w8 w8.drew := (Below.refl _ w8).drew
                have g9 := g8.under yd
                have z9 := below_same yd z8
                have K9 := K8.trans (kept_below yd)
                clear hsl ht2 cP
                go_region_with (fail)
                all_goals
                  go_wp2_with fail
                  exact bodyPost_ret (results_cell_row (P := Tryz.prog) rfl _ _ R _ _ _ _ rfl (set_thr z9 _ _ _) Tryz.underlying92 rfl argC_size) rfl (HDONE.out _ _ g9 K9 (by rw [tt2]; exact ht2l) (by omega) (by omega) (fun _ => ⟨by omega, hn60⟩))
      have e123 : ((b.toNat : Int) == 123) = false := by rw [beq_eq_false_iff_ne]; exact h123
      have d123 : decide ((b.toNat : Int) = 123) = false := decide_eq_false h123
      by_cases h40 : (b.toNat : Int) = 40
      · exact argC_list d hd hd6 ih w0 C S k n e p w hC hw hS hk hn60 HG.out b hs0 h40
      have e40 : ((b.toNat : Int) == 40) = false := by rw [beq_eq_false_iff_ne]; exact h40
      have d40 : decide ((b.toNat : Int) = 40) = false := decide_eq_false h40
      clear ih
      go_enter Tryz.func43, Tryz.ntmps43
      go_upto_region 1 with fail
      go_upto_region 2 with fail
      clear hw1 hw2 c0 c1 c2 c3 c4 f1
      obtain ⟨c0, c1, c2, c3, c4⟩ := five_cellsC hc2
      go_wp2_with (first
        | (go_at_call 65; (((with_reducible refine cS2.mono ?_); rintro e' w4 ⟨rfl, m, hw4⟩; have h4 : Below w2.heap.size w2 w4 := hw4 ▸ below_drewN (Below.refl _ _) m; clear hw4; have g4 := G2.out.under h4; have z4 := below_same h4 Z2.out; have K4 := K2.out.trans (kept_below h4); have cQ := wordC_any w4 C hC S k (n + 1) e p w4 ⟨Kept.refl _ _, g4.cmd, g4.fine⟩ hS (by omega))))
        | (go_at_call 39; (((with_reducible refine cQ.mono ?_); rintro e' w5 ⟨B, k', e2, p2, rfl, hB, g5', hkk, hkk2, hkk3⟩; have g5 := g4.next g5'.base g5'.cmd hC; have z5 := g5'.base.obj z4 (fun e => hRC e.symm); have K5 := K4.trans g5'.base; obtain ⟨r0, r1, r2⟩ := three_cells z5; have fz := Lib.frozen_of_heap z5))))
      exact bodyPost_ret (results_cell_row (P := Tryz.prog) rfl _ _ R _ _ _ _ rfl (set_thr z5 _ _ _) Tryz.underlying92 rfl argC_size) rfl (HDONE.out _ _ g5 K5 (by omega) hkk hkk2 (fun h => ⟨hkk3 h, hn60⟩))
  · have hl : (60 : Int) < (n : Int) + 1 ∨ (6 : Int) < d := by omega
    have cF := failC_any C S k (n + 1) e p 4 w2 hc2 G2.out.fine
    clear ih
    go_enter Tryz.func43, Tryz.ntmps43
    go_upto_region 1 with fail
    go_upto_region 2 with fail
    clear hw1 hw2 c0 c1 c2 c3 c4 f1
    obtain ⟨c0, c1, c2, c3, c4⟩ := five_cellsC hc2
    go_wp2_with (first
      | (go_at_call 44; (((with_reducible refine cF.mono ?_); rintro e' w3 ⟨rfl, hc3, hk3⟩; have g3 := G2.out.next hk3 hc3 hC; have cS3 := seeC_none (see_off (fail_noE 4 k e p)) C (n + 1) w3 g3.cmd g3.fine hS (by omega); have z3 := hk3.obj Z2.out (fun e => hRC e.symm); have K3 := K2.out.trans hk3)))
      | (go_at_call 65; (((with_reducible refine cS3.mono ?_); rintro e' w4 ⟨rfl, m, hw4⟩; have h4 : Below w3.heap.size w3 w4 := hw4 ▸ below_drewN (Below.refl _ _) m; clear hw4; have g4 := g3.under h4; have z4 := below_same h4 z3; have K4 := K3.trans (kept_below h4); have cF4 := failC_any C S k (n + 1) _ _ 3 w4 g4.cmd g4.fine)))
      | (go_at_call 44; (((with_reducible refine cF4.mono ?_); rintro e' w5 ⟨rfl, hc5, hk5⟩; have g5 := g4.next hk5 hc5 hC; have z5 := hk5.obj z4 (fun e => hRC e.symm); have K5 := K4.trans hk5; obtain ⟨r0, r1, r2⟩ := three_cells z5; have fz := Lib.frozen_of_heap z5))))
    all_goals exact bodyPost_ret (results_cell_row (P := Tryz.prog) rfl _ _ R _ _ _ _ rfl (set_thr z5 _ _ _) Tryz.underlying92 rfl argC_size) rfl (HDONE.out _ _ g5 K5 (by decide) (Nat.le_refl _) hk (fun h => absurd h (by rw [fail_noE]; decide)))
/-- arg, at whatever depth -/
theorem argC_any : ∀ (j : Nat) (d : Int), 0 ≤ d → d + (j : Int) = 7 → ArgSpec d
  | 0, d, h0, h7 => argC_step d h0 (by omega) (fun h => by omega)
  | j + 1, d, h0, h7 => argC_step d h0 (by omega) (fun _ => argC_any j (d + 1) (by omega) (by omega))
end Go.Proofs.YtcahhnjponeeeaaGreatDoor
namespace Go.Proofs.YtcahhnjponeeeaaGreatDoor
open Go.RowKit Go.Shelf Go.Sort
set_option linter.unusedSimpArgs false
theorem results_rows2 {P : Program} {fn : Func} {p q : Tmp} {ty ty2 : TypeId} (h : fn.results = #[.cell p ty, .cell q ty2]) (tmps : Array Value) (w : World) (g g2 : Nat) (T T2 : TypeId) (cs cs2 : Array Value) (fr fr2 : Nat × Nat) (d d2 : TypeDesc)
    (hp : tmps.getD p undef = .pointer (some ⟨g, 0, none⟩)) (hg : w.heap[g]? = some (.cells cs T fr)) (hp2 : tmps.getD q undef = .pointer (some ⟨g2, 0, none⟩)) (hg2 : w.heap[g2]? = some (.cells cs2 T2 fr2))
    (hu : P.underlying ty = some d) (hd : (match d with | .struct _ | .array _ _ => true | _ => false) = true) (hi : (P.info? ty).map (·.size) = some cs.size)
    (hu2 : P.underlying ty2 = some d2) (hd2 : (match d2 with | .struct _ | .array _ _ => true | _ => false) = true) (hi2 : (P.info? ty2).map (·.size) = some cs2.size) :
    (results fn tmps).run P w = .ok (.tuple #[.agg cs, .agg cs2]) w := by
  have hp' : tmps[p]?.getD undef = .pointer (some ⟨g, 0, none⟩) := by simpa using hp
  have hp2' : tmps[q]?.getD undef = .pointer (some ⟨g2, 0, none⟩) := by simpa using hp2
  simp [results, h, hp', hp2', asAddr, run_loadVar_row w g T ty cs fr d hg hu hd hi, run_loadVar_row w g2 T2 ty2 cs2 fr2 d2 hg2 hu2 hd2 hi2]
/-- what ParseCommand returns: words in new blocks, and a fault -/
def ParsedC (w : World) (x : Ending) (w' : World) : Prop :=
  ∃ (t1 t2 : ByteArray) (a : Option Addr) (l : List Wd) (c : Nat) (fe fp : Int), x = .returned (.tuple #[.agg #[.string t1, .string t2, .slice a l.length c], .agg #[.int .i64 fe, .int .i64 fp]]) ∧ Hid (WordsL w' (fun j => w.heap.size ≤ j) (.slice a l.length c) l) ∧ Below w.heap.size w w'
structure PcS (w : World) (C X : Nat) (S : List UInt8) (tg nm : ByteArray) (rs : List (Wd × Value)) (ov : Value) (j n' : Nat) (e' p' : Int) (W : World) : Prop where
  cmd : CmdW w C S j n' e' p' W
  hi : j ≤ S.length
  num : okC e' p' = true → n' ≤ 60
  own : W.ownsRow (X + 1) 92 3 ov rs.length (wdCells rs)
  cell : W.heap[X]? = some (.cells #[.string tg, .string nm, ov] 48 (0, 0))
  r1 : W.heap[w.heap.size]? = some (.cells #[.string ⟨#[]⟩, .string ⟨#[]⟩, .slice none 0 0] 48 (0, 0))
  r2 : W.heap[w.heap.size + 1]? = some (.cells #[.int .i64 0, .int .i64 0] 50 (0, 0))
  words : ∀ x ∈ rs, x.1.text.length ≤ 1000000 ∧ WordsL W (fun j => X < j ∧ ov.ownBlock ≠ some j) x.2 x.1.list
  many : rs.length ≤ j
theorem PcS.call {w : World} {C X : Nat} {S : List UInt8} {tg nm : ByteArray} {rs : List (Wd × Value)} {ov : Value} {j n' : Nat} {e' p' : Int} {W W' : World} (h : PcS w C X S tg nm rs ov j n' e' p' W) (hCX : C < X) (hF : 0 ≠ C) (hk : Kept (fun i => i = C) W W') {j2 n2 : Nat} {e2 p2 : Int} (hc : CmdC W' C S j2 n2 e2 p2) (h1 : j ≤ j2) (h2 : j2 ≤ S.length) (h3 : okC e2 p2 = true → n2 ≤ 60) : PcS w C X S tg nm rs ov j2 n2 e2 p2 W' where
  cmd := h.cmd.next hk hc hF
  hi := h2
  num := h3
  own := owns_same h.own fun g o hg hor => hk.obj hg (by
    obtain ⟨c, fz, rfl⟩ := hor
    exact cmd_ne h.cmd hg (by decide))
  cell := hk.obj h.cell (cmd_ne h.cmd h.cell (by decide))
  r1 := hk.obj h.r1 (cmd_ne h.cmd h.r1 (by decide))
  r2 := hk.obj h.r2 (cmd_ne h.cmd h.r2 (by decide))
  words := fun x hx => ⟨(h.words x hx).1, (h.words x hx).2.kept hk (fun g hg e => by have := hg.1; omega)⟩
  many := Nat.le_trans h.many h1
theorem PcS.under {w : World} {C X : Nat} {S : List UInt8} {tg nm : ByteArray} {rs : List (Wd × Value)} {ov : Value} {j n' : Nat} {e' p' : Int} {W W' : World} (h : PcS w C X S tg nm rs ov j n' e' p' W) (hCX : C < X) (hF : 0 ≠ C) (hb : Below W.heap.size W W') : PcS w C X S tg nm rs ov j n' e' p' W' :=
  h.call hCX hF (kept_below hb) (h.cmd.cmd.below hb) (Nat.le_refl _) h.hi h.num
/-- the command's name, or its tag, is laid -/
theorem PcS.name {w : World} {C X : Nat} {S : List UInt8} {tg nm tg2 nm2 : ByteArray} {rs : List (Wd × Value)} {ov : Value} {j n' : Nat} {e' p' : Int} {W : World} (h : PcS w C X S tg nm rs ov j n' e' p' W) (hX : X = w.heap.size + 3) (hC : C = w.heap.size + 2) (hF : 0 < w.heap.size) {i : Nat} {u : Value} (hi : (W.setCell ⟨X, i, none⟩ u).heap[X]? = some (.cells #[.string tg2, .string nm2, ov] 48 (0, 0))) : PcS w C X S tg2 nm2 rs ov j n' e' p' (W.setCell ⟨X, i, none⟩ u) where
  cmd := h.cmd.put (by omega) (by omega) (by omega) i u
  hi := h.hi
  num := h.num
  own := ownsRow_setCell_below (a := ⟨X, i, none⟩) h.own (Nat.lt_succ_self _) u
  cell := hi
  r1 := (Below.heap_setCell W ⟨X, i, none⟩ u w.heap.size (show w.heap.size ≠ X by omega)).trans h.r1
  r2 := (Below.heap_setCell W ⟨X, i, none⟩ u (w.heap.size + 1) (show w.heap.size + 1 ≠ X by omega)).trans h.r2
  words := fun x hx => ⟨(h.words x hx).1, (h.words x hx).2.keep (by rw [set_size]; exact Nat.le_refl _) (fun g hg _ => Below.heap_setCell W ⟨X, i, none⟩ u g (show g ≠ X by have := hg.1; omega)) (fun _ h _ => h)⟩
  many := h.many
theorem PcS.push {w : World} {C A : Nat} {S : List UInt8} {tg nm : ByteArray} {rs : List (Wd × Value)} {ov : Value} {j n' : Nat} {e' p' : Int} {W W6 : World} (h : PcS w C A S tg nm rs ov j n' e' p' W) (hCe : C = w.heap.size + 2) (hAe : A = w.heap.size + 3) (hFR : 0 < w.heap.size) (hj : rs.length + 1 ≤ j)
    (t : Wd) (va : Value) (H : Nat) (hH : A < H) (hv : ∀ g, ov.ownBlock = some g → g < H) (htl : t.text.length ≤ 1000000) (hva : WordsL W (fun g => H ≤ g) va t.list)
    {g cap : Nat} (hown : W6.ownsRow (A + 1) 92 3 (.slice (some ⟨g, 0, none⟩) (rs.length + 1) cap) (rs.length + 1) (wdCells rs ++ [.int .i64 t.kind, .string ⟨t.text.toArray⟩, va])) (hg : (W.alloc (.cells #[.int .i64 t.kind, .string ⟨t.text.toArray⟩, va] 92)).grownBy W6 ov.ownBlock) (hat : ov.ownBlock = some g ∨ g = W.heap.size + 1) :
    PcS w C A S tg nm (rs ++ [(t, va)]) (.slice (some ⟨g, 0, none⟩) (rs.length + 1) cap) j n' e' p' (W6.setCell ⟨A, 2, none⟩ (.slice (some ⟨g, 0, none⟩) (rs.length + 1) cap)) := by
  have hAl : A < W.heap.size := (Array.getElem?_eq_some_iff.1 h.cell).1
  have hsz := alloc_size W (.cells #[.int .i64 t.kind, .string ⟨t.text.toArray⟩, va] 92)
  have hle := hg.size
  have hlow : ∀ i, ov.ownBlock = some i → A < i := fun i e => (h.own.lt i e).1
  have same : ∀ i, i < W.heap.size → ov.ownBlock ≠ some i → W6.heap[i]? = W.heap[i]? := fun i hi hne =>
    (hg.block i (by omega) (fun e => hne e.symm)).trans (Below.heap_alloc W _ i hi)
  have hb : Below (A + 1) W W6 := ((Below.refl (A + 1) W).alloc (by omega) _).grown hg (by omega) (fun i e => hlow i e)
  have hb0 : Below A W (W6.setCell ⟨A, 2, none⟩ (.slice (some ⟨g, 0, none⟩) (rs.length + 1) cap)) := (hb.mono (Nat.le_succ A)).setCell (Nat.le_refl _) _
  have hCl : C < A := by omega
  have hk0 : Kept (fun i => i = C) w (W6.setCell ⟨A, 2, none⟩ (.slice (some ⟨g, 0, none⟩) (rs.length + 1) cap)) := h.cmd.base.next (hb0.mono (by omega))
  refine ⟨⟨hk0, (hb0.block C hCl).trans h.cmd.cmd, (World.cell?_of_block (w := W) (a := ⟨0, 0, none⟩) (hb0.block 0 (by omega))).trans h.cmd.fine.1, (World.cell?_of_block (w := W) (a := ⟨0, 1, none⟩) (hb0.block 0 (by omega))).trans h.cmd.fine.2⟩, h.hi, h.num, ?_, ?_, (hb0.block w.heap.size (by omega)).trans h.r1, (hb0.block (w.heap.size + 1) (by omega)).trans h.r2, ?_, by rw [List.length_append]; simpa using hj⟩
  · have e : (rs ++ [(t, va)]).length = rs.length + 1 := by simp
    have e2 : wdCells (rs ++ [(t, va)]) = wdCells rs ++ [.int .i64 t.kind, .string ⟨t.text.toArray⟩, va] := by simp [wdCells]
    rw [e, e2]
    exact ownsRow_setCell_below (a := ⟨A, 2, none⟩) hown (Nat.lt_succ_self _) _
  · have h1 := (same A hAl (fun e => by have := hlow A e; omega)).trans h.cell
    exact set3_2 h1
  · intro y hy
    have key : ∀ (ok : Nat → Prop) (u : Value) (l : List Wd), WordsL W ok u l → (∀ i, ok i → A < i ∧ ov.ownBlock ≠ some i) → WordsL (W6.setCell ⟨A, 2, none⟩ (.slice (some ⟨g, 0, none⟩) (rs.length + 1) cap)) (fun i => A < i ∧ (Value.slice (some ⟨g, 0, none⟩) (rs.length + 1) cap).ownBlock ≠ some i) u l := fun ok u l hr hok => by
      refine hr.keep (by rw [set_size]; omega) (fun i hi hl => ?_) (fun i hi hl => ⟨(hok i hi).1, fun e => ?_⟩)
      · rw [Below.heap_setCell _ _ _ _ (show i ≠ A by have := (hok i hi).1; omega)]
        exact same i hl (hok i hi).2
      · have e2 : g = i := Option.some.inj e
        subst e2
        rcases hat with h' | h'
        · exact (hok g hi).2 h'
        · omega
    rcases List.mem_append.1 hy with h' | h'
    · exact ⟨(h.words y h').1, key _ _ _ (h.words y h').2 (fun i hi => hi)⟩
    · rw [List.mem_singleton] at h'
      subst h'
      exact ⟨htl, key _ _ _ hva (fun i hi => ⟨by omega, fun e => by have := hv i e; omega⟩)⟩
theorem cmd_size : (Tryz.prog.info? 48).map (·.size) = some 3 := by kernel_rfl
theorem flt_size : (Tryz.prog.info? 50).map (·.size) = some 2 := by kernel_rfl
theorem set_twoC {w : World} {U : Nat} {a b : Value} {T : TypeId} (h : w.heap[U]? = some (.cells #[a, b] T (0, 0))) (x y : Value) : ((w.setCell ⟨U, 0, none⟩ x).setCell ⟨U, 1, none⟩ y).heap[U]? = some (.cells #[x, y] T (0, 0)) := by
  simp only [World.setCell, Array.getElem?_modify, if_pos, h]
  simp
end Go.Proofs.YtcahhnjponeeeaaGreatDoor
namespace Go.Proofs.YtcahhnjponeeeaaGreatDoor
open Go.RowKit Go.Shelf Go.Sort
set_option linter.unusedSimpArgs false
/-- the two results are laid -/
theorem pc_done {w W : World} (hb : Below w.heap.size w W) (b1 : W.heap[w.heap.size]? = some (.cells #[.string ⟨#[]⟩, .string ⟨#[]⟩, .slice none 0 0] 48 (0, 0))) (b2 : W.heap[w.heap.size + 1]? = some (.cells #[.int .i64 0, .int .i64 0] 50 (0, 0)))
    {a : Option Addr} {l : List Wd} {c : Nat} (hw : WordsL W (fun j => w.heap.size + 2 ≤ j) (.slice a l.length c) l) (t1 t2 : ByteArray) (fe fp : Int) {Q : Ending → World → Prop}
    (hQ : ∀ x w', ParsedC w x w' → Q x w') {ac : Act} (h2 : ac.tmps.getD 2 undef = .pointer (some ⟨w.heap.size, 0, none⟩)) (h3 : ac.tmps.getD 3 undef = .pointer (some ⟨w.heap.size + 1, 0, none⟩)) (hd : ac.defers = []) :
    bodyPost Tryz.prog Tryz.f12 Q Exit.ret ac (((((W.setCell ⟨w.heap.size, 0, none⟩ (.string t1)).setCell ⟨w.heap.size, 1, none⟩ (.string t2)).setCell ⟨w.heap.size, 2, none⟩ (.slice a l.length c)).setCell ⟨w.heap.size + 1, 0, none⟩ (.int .i64 fe)).setCell ⟨w.heap.size + 1, 1, none⟩ (.int .i64 fp)) := by
  have hne : w.heap.size ≠ w.heap.size + 1 := by omega
  have e1 := set_thr b1 (.string t1) (.string t2) (.slice a l.length c)
  have e2 : (((W.setCell ⟨w.heap.size, 0, none⟩ (.string t1)).setCell ⟨w.heap.size, 1, none⟩ (.string t2)).setCell ⟨w.heap.size, 2, none⟩ (.slice a l.length c)).heap[w.heap.size + 1]? = _ := (threeC_heap W w.heap.size _ _ _ _ (Ne.symm hne)).trans b2
  have k1 := set_twoC e2 (.int .i64 fe) (.int .i64 fp)
  have k2 := setCell_same (a := ⟨w.heap.size + 1, 1, none⟩) (u := .int .i64 fp) (setCell_same (a := ⟨w.heap.size + 1, 0, none⟩) (u := .int .i64 fe) e1 hne) hne
  obtain ⟨tm, df⟩ := ac
  obtain rfl : df = [] := hd
  refine bodyPost_ret (results_rows2 (P := Tryz.prog) rfl _ _ _ _ _ _ _ _ _ _ _ _ h2 k2 h3 k1 Tryz.underlying48 rfl cmd_size Tryz.underlying50 rfl flt_size) rfl (hQ _ _ ?_)
  refine ⟨t1, t2, a, l, c, fe, fp, rfl, Lib.hid (hw.keep (by simp only [set_size]; exact Nat.le_refl _) (fun j hj _ => ?_) (fun j hj _ => by show w.heap.size ≤ j; omega)), ?_⟩
  · rw [Below.heap_setCell _ _ _ _ (show j ≠ w.heap.size + 1 by omega), Below.heap_setCell _ _ _ _ (show j ≠ w.heap.size + 1 by omega)]
    exact threeC_heap W w.heap.size _ _ _ _ (by omega)
  · exact ((((hb.setCell (Nat.le_refl _) _).setCell (Nat.le_refl _) _).setCell (Nat.le_refl _) _).setCell (Nat.le_succ _) _).setCell (Nat.le_succ _) _
theorem setC_drew (W : World) (a : Addr) (u : Value) : (W.setCell a u).drew = W.drew.setCell a u := rfl
/-- the two results are laid, behind a drawn order -/
theorem pc_drew {w W : World} (hb : Below w.heap.size w W) (b1 : W.heap[w.heap.size]? = some (.cells #[.string ⟨#[]⟩, .string ⟨#[]⟩, .slice none 0 0] 48 (0, 0))) (b2 : W.heap[w.heap.size + 1]? = some (.cells #[.int .i64 0, .int .i64 0] 50 (0, 0)))
    (a : Option Addr) (l : List Wd) (n c : Nat) (hn : l.length = n) (hw : WordsL W (fun j => w.heap.size + 2 ≤ j) (.slice a n c) l) (t1 t2 : ByteArray) (fe fp : Int) {ac : Act} (h2 : ac.tmps.getD 2 undef = .pointer (some ⟨w.heap.size, 0, none⟩)) (h3 : ac.tmps.getD 3 undef = .pointer (some ⟨w.heap.size + 1, 0, none⟩)) (hd : ac.defers = []) :
    bodyPost Tryz.prog Tryz.f12 (ParsedC w) Exit.ret ac (((((W.setCell ⟨w.heap.size, 0, none⟩ (.string t1)).setCell ⟨w.heap.size, 1, none⟩ (.string t2)).setCell ⟨w.heap.size, 2, none⟩ (.slice a n c)).setCell ⟨w.heap.size + 1, 0, none⟩ (.int .i64 fe)).setCell ⟨w.heap.size + 1, 1, none⟩ (.int .i64 fp)).drew := by
  subst hn
  have hd1 : Below W.heap.size W W.drew := (Below.refl _ _).drew
  rw [setC_drew, setC_drew, setC_drew, setC_drew, setC_drew]
  exact pc_done (W := W.drew) (Q := ParsedC w) (hb.trans (hd1.mono hb.size)) b1 b2 (hw.under hd1) t1 t2 fe fp (fun _ _ h => h) h2 h3 hd
set_option linter.constructorNameAsVariable false in
set_option maxRecDepth 100000 in
set_option maxHeartbeats 16000000 in
theorem parseC_any (S : List UInt8) (w : World) (hS : S.length ≤ 1000000) (hF : FineG w) (hG : StrG w) : Calls Tryz.prog 12 #[.string ⟨S.toArray⟩] w (ParsedC w) := by
  have ts := text_size S
  have hFlt : 0 < w.heap.size := World.block_lt_of_cell? _ _ hF.1
  obtain ⟨P, hP⟩ : ∃ P, Lib.hasSuffix S [13, 10] = P := ⟨_, rfl⟩
  have cP : ∀ W, Calls Tryz.prog 38 #[.string ⟨S.toArray⟩, .string ⟨#[13, 10]⟩] W fun e w' => e = .returned (.bool P) ∧ W = w' := fun W => hP ▸ (Tryz.strings_HasSuffix ⟨S.toArray⟩ ⟨#[13, 10]⟩ W (by rw [ts]; omega)).mono fun _ _ ⟨h1, h2⟩ => ⟨h1, h2.symm⟩
  obtain ⟨w2, hw2⟩ : ∃ w2, (w.alloc (.cells #[.string ⟨#[]⟩, .string ⟨#[]⟩, .slice none 0 0] 48)).alloc (.cells #[.int .i64 0, .int .i64 0] 50) = w2 := ⟨_, rfl⟩
  have y2 : Below w.heap.size w w2 := hw2 ▸ ((Below.refl _ _).alloc (Nat.le_refl _) _).alloc (by rw [alloc_size]; exact Nat.le_succ _) _
  have s1 := alloc_size w (.cells #[.string ⟨#[]⟩, .string ⟨#[]⟩, .slice none 0 0] 48)
  have b2 : w2.heap[w.heap.size + 1]? = some (.cells #[.int .i64 0, .int .i64 0] 50 (0, 0)) := by
    have := World.heap_alloc_new (w.alloc (.cells #[.string ⟨#[]⟩, .string ⟨#[]⟩, .slice none 0 0] 48)) (.cells #[.int .i64 0, .int .i64 0] 50)
    rw [s1, hw2] at this
    exact this
  have b1 : w2.heap[w.heap.size]? = some (.cells #[.string ⟨#[]⟩, .string ⟨#[]⟩, .slice none 0 0] 48 (0, 0)) := by
    rw [← hw2]; exact alloc_same (World.heap_alloc_new w _)
  have s2 : w2.heap.size = w.heap.size + 2 := by rw [← hw2, alloc_size, s1]
  obtain ⟨hf0, hf1⟩ := hF.below y2
  have HF := Lib.hid (hF.below y2)
  have HG := Lib.hid hG
  clear hP s1 hG
  cases P with
  | false =>
    obtain ⟨r0, r1, r2⟩ := three_cells b1
    have q0 : w2.cell? ⟨w.heap.size + 1, 0, none⟩ = some (.int .i64 0) := by rw [Lib.cell_of_heap b2]; rfl
    have q1 : w2.cell? ⟨w.heap.size + 1, 1, none⟩ = some (.int .i64 0) := by rw [Lib.cell_of_heap b2]; rfl
    have fz1 := Lib.frozen_of_heap b1
    have fz2 := Lib.frozen_of_heap b2
    go_enter Tryz.func12, Tryz.ntmps12
    go_upto_region 1 with fail
    try rw [hw2]
    go_upto_region 2 with (go_at_call 38; ((with_reducible refine (cP _).mono ?_); rintro e' w3 ⟨rfl, rfl⟩))
    clear hw2
    go_wp2_with fail
    exact pc_done (a := none) (l := []) (c := 0) (Q := ParsedC w) y2 b1 b2 (wordsL_nil _ _) ⟨#[]⟩ ⟨#[]⟩ 3 0 (fun _ _ h => h) rfl rfl rfl
  | true =>
    go_enter Tryz.func12, Tryz.ntmps12
    go_upto_region 1 with fail
    try rw [hw2]
    go_upto_region 5 with (go_at_call 38; ((with_reducible refine (cP _).mono ?_); rintro e' w3 ⟨rfl, rfl⟩))
    clear hw2
    obtain ⟨C, hCe⟩ : ∃ C, C = w.heap.size + 2 := ⟨_, rfl⟩
    obtain ⟨X, hXe⟩ : ∃ X, X = w.heap.size + 3 := ⟨_, rfl⟩
    rw [show w.heap.size + 2 + 1 = X by omega, ← hCe]
    obtain ⟨w3, hw3⟩ : ∃ w3, w2.alloc (.cells #[.string ⟨S.toArray⟩, .int .i64 0, .int .i64 0, .int .i64 0, .int .i64 (-1)] 88) = w3 := ⟨_, rfl⟩
    obtain ⟨w4, hw4⟩ : ∃ w4, w3.alloc (.cells #[.string ⟨#[]⟩, .string ⟨#[]⟩, .slice none 0 0] 48) = w4 := ⟨_, rfl⟩
    rw [hw3, hw4]
    have s3 : w3.heap.size = w.heap.size + 3 := by rw [← hw3, alloc_size, s2]
    have y3 : Below w2.heap.size w2 w3 := hw3 ▸ (Below.refl _ _).alloc (Nat.le_refl _) _
    have y4 : Below w3.heap.size w3 w4 := hw4 ▸ (Below.refl _ _).alloc (Nat.le_refl _) _
    have y24 : Below w2.heap.size w2 w4 := y3.trans (y4.mono y3.size)
    have x3 : w3.heap[C]? = some (.cells #[.string ⟨S.toArray⟩, .int .i64 0, .int .i64 0, .int .i64 0, .int .i64 (-1)] 88 (0, 0)) := by
      have := hw3 ▸ World.heap_alloc_new w2 (.cells #[.string ⟨S.toArray⟩, .int .i64 0, .int .i64 0, .int .i64 0, .int .i64 (-1)] 88)
      rw [s2, ← hCe] at this
      exact this
    have x4 : w4.heap[X]? = some (.cells #[.string ⟨#[]⟩, .string ⟨#[]⟩, .slice none 0 0] 48 (0, 0)) := by
      have := hw4 ▸ World.heap_alloc_new w3 (.cells #[.string ⟨#[]⟩, .string ⟨#[]⟩, .slice none 0 0] 48)
      rw [s3, ← hXe] at this
      exact this
    have hC : 0 ≠ C := by omega
    have hCX : C < X := by omega
    have hwC : w.heap.size ≤ C := by omega
    have HCE := Lib.hid hCe
    have HXE := Lib.hid hXe
    have HP4 : PcS w C X S ⟨#[]⟩ ⟨#[]⟩ [] (.slice none 0 0) 0 0 0 (-1) w4 := ⟨⟨kept_below (y2.trans (y24.mono y2.size)), below_same y4 x3, HF.out.below y24⟩, Nat.zero_le _, fun _ => by omega, World.ownsRow_nil _ _ _ _, x4, below_same y24 b1, below_same y24 b2, (fun x hx => by cases hx), Nat.zero_le _⟩
    clear hw3 hw4 s3 y3 y4 y24 x3 x4 y2 b1 b2 s2 HF cP hf0 hf1 hCe hXe
    have cW := wordC_any w4 C hC S 0 0 0 (-1) w4 ⟨Kept.refl _ _, HP4.cmd.cmd, HP4.cmd.fine⟩ hS (Nat.zero_le _)
    go_upto_region 6 with (go_at_call 39; (((with_reducible refine cW.mono ?_); rintro e4 w5 ⟨tg, j5, e5, p5, rfl, htg, g5, hj05, hj5, ho5⟩; have HP5 := HP4.call hCX hC g5.base g5.cmd hj05 hj5 (fun _ => by omega); obtain ⟨a0, a1, a2⟩ := three_cells HP5.cell; have fz := Lib.frozen_of_heap HP5.cell)))
    have HP6 := HP5.name (tg2 := tg) (nm2 := ⟨#[]⟩) (i := 0) (u := .string tg) HXE.out HCE.out hFlt (by have h := HP5.cell; simp only [World.setCell, Array.getElem?_modify, if_pos, h]; simp)
    clear cW a0 a1 a2 fz HP4 HP5 g5 ho5 hj05
    generalize w5.setCell ⟨X, 0, none⟩ (.string tg) = w6 at HP6 ⊢
    have cO6 := okC_any C S j5 0 e5 p5 w6 HP6.cmd.cmd HP6.cmd.fine
    go_upto_if 19 with (go_at_call 40; (((with_reducible refine cO6.mono ?_); rintro e4 w7 ⟨rfl, m9, hw9⟩; have h9 : Below w6.heap.size w6 w7 := hw9 ▸ below_drewN (Below.refl _ _) m9; clear hw9; have HP7 := HP6.under hCX hC h9)))
    clear cO6 HP6 h9
    go_cut [] (fun wx => ∃ (j : Nat) (e p : Int), Hid (PcS w C X S tg ⟨#[]⟩ [] (.slice none 0 0) j 0 e p wx))
    case first =>
      cases ho : okC e5 p5 with
      | false =>
        go_wp2_with fail
        go_meet
        exact ⟨j5, e5, p5, HP7⟩
      | true =>
        have cGp := gapC_any w7 C hC S j5 0 e5 p5 w7 ⟨Kept.refl _ _, HP7.cmd.cmd, HP7.cmd.fine⟩ hS HP7.hi
        go_wp2_with (go_at_call 41; (((with_reducible refine cGp.mono ?_); rintro e4 w9 ⟨rfl, j2, e2, p2, g9, hj12, hj2, ho2⟩)))
        go_meet
        exact ⟨j2, e2, p2, HP7.call hCX hC g9.base g9.cmd hj12 hj2 (fun _ => by omega)⟩
    case rest =>
      obtain ⟨j8, e8, p8, HQ8⟩ := hcut
      clear HP7
      have HP8 := HQ8.out
      have cO8 := okC_any C S j8 0 e8 p8 _ HP8.cmd.cmd HP8.cmd.fine
      go_upto_if 23 with (go_at_call 40; (((with_reducible refine cO8.mono ?_); rintro e4 w9 ⟨rfl, m9, hw9⟩; have h9 : Below wc.heap.size wc w9 := hw9 ▸ below_drewN (Below.refl _ _) m9; clear hw9; have HP9 := HP8.under hCX hC h9)))
      clear cO8 HP8 h9 HQ8
      go_cut [] (fun wx => ∃ (nm : ByteArray) (j : Nat) (e p : Int), Hid (PcS w C X S tg nm [] (.slice none 0 0) j 0 e p wx))
      case first =>
        cases ho : okC e8 p8 with
        | false =>
          go_wp2_with fail
          go_meet
          exact ⟨_, j8, e8, p8, HP9⟩
        | true =>
          have cW := wordC_any w9 C hC S j8 0 e8 p8 w9 ⟨Kept.refl _ _, HP9.cmd.cmd, HP9.cmd.fine⟩ hS HP9.hi
          have cW : Calls Tryz.prog 39 #[.pointer (some ⟨C, 0, none⟩)] w9 fun x w' => ∃ (t : List UInt8) (k' : Nat) (e' p' : Int), x = .returned (.string ⟨t.toArray⟩) ∧ t.length ≤ S.length ∧ Hid (PcS w C X S tg ⟨#[]⟩ [] (.slice none 0 0) k' 0 e' p' w') := cW.mono (by
            rintro x w' ⟨B, k', e', p', rfl, hB, g, h1, h2, h3⟩
            obtain ⟨t, rfl, ht⟩ := bytes_mk B
            exact ⟨t, k', e', p', rfl, by omega, HP9.call hCX hC g.base g.cmd h1 h2 (fun _ => by omega)⟩)
          go_wp2_with (first
            | (go_at_call 39; (((with_reducible refine cW.mono ?_); rintro e4 w10 ⟨t, j2, e2, p2, rfl, htl, HP10⟩; have cGr := rgreat_any t w10 (by omega))))
            | (go_at_call 42; (((with_reducible refine cGr.mono ?_); rintro e4 w11 ⟨rfl, h11⟩; have HP11 := HP10.out.under hCX hC h11; obtain ⟨a0, a1, a2⟩ := three_cells HP11.cell; have fz := Lib.frozen_of_heap HP11.cell))))
          go_meet
          exact ⟨_, j2, e2, p2, HP11.name (i := 1) HXE.out HCE.out hFlt (set3_1 HP11.cell)⟩
      case rest =>
        obtain ⟨nm, j9, e9, p9, HQ9⟩ := hcut
        clear HP9
        have hw2 : IntKind.i64.wrap ((S.length : Int) - 2) = (S.length : Int) - 2 := IntWalk.i64_in _ (by omega)
        go_wp2_with fail
        go_loopg [] (S.length + 1) (fun g wr => ∃ (j n' : Nat) (e' p' : Int) (rs : List (Wd × Value)) (va : Option Addr) (vc : Nat), Hid (PcS w C X S tg nm rs (.slice va rs.length vc) j n' e' p' wr) ∧ S.length - j + (if okC e' p' = true then 1 else 0) ≤ g)
        case atStart => exact ⟨j9, 0, e9, p9, [], none, 0, HQ9, by split <;> omega⟩
        case round =>
          obtain ⟨j, n', e', p', rs, va, vc, HL, hgk⟩ := hrel
          clear HQ9
          have hL := HL.out
          have hjS := hL.hi
          have cO := okC_any C S j n' e' p' wr hL.cmd.cmd hL.cmd.fine
          go_upto_region 10 with fail
          go_cut [39] (fun s39 wx => ∃ T : Bool, s39 = .bool T ∧ Hid (PcS w C X S tg nm rs (.slice va rs.length vc) j n' e' p' wx) ∧ Hid (T = true → okC e' p' = true))
          case first =>
            cases ho : okC e' p' with
            | false =>
              rw [ho] at cO
              go_wp2_with (go_at_call 40; (((with_reducible refine cO.mono ?_); rintro e4 w7 ⟨rfl, m9, hw9⟩; have h9 : Below wr.heap.size wr w7 := hw9 ▸ below_drewN (Below.refl _ _) m9; clear hw9; have hL7 := hL.under hCX hC h9)))
              go_meet
              exact ⟨false, rfl, hL7, Lib.hid (fun h => by cases h)⟩
            | true =>
              rw [ho] at cO
              go_wp2_with (go_at_call 40; (((with_reducible refine cO.mono ?_); rintro e4 w7 ⟨rfl, m9, hw9⟩; have h9 : Below wr.heap.size wr w7 := hw9 ▸ below_drewN (Below.refl _ _) m9; clear hw9; have hL7 := hL.under hCX hC h9; obtain ⟨c0, c1, c2, c3, c4⟩ := five_cellsC hL7.cmd.cmd)))
              go_meet
              exact ⟨_, rfl, hL7, Lib.hid (fun _ => ho)⟩
          case rest =>
            obtain ⟨T, rfl, HL8, HT⟩ := hcut
            clear cO hL HL
            have hL8 := HL8.out
            cases T with
            | true =>
              have ho1 := HT.out rfl
              rw [if_pos ho1] at hgk
              obtain ⟨g', rfl⟩ : ∃ g', gk = g' + 1 := ⟨gk - 1, by omega⟩
              have cGp := gapC_any wc C hC S j n' e' p' wc ⟨Kept.refl _ _, hL8.cmd.cmd, hL8.cmd.fine⟩ hS hL8.hi
              have cGp : Calls Tryz.prog 41 #[.pointer (some ⟨C, 0, none⟩)] wc fun x w' => x = .returned (.tuple #[]) ∧ ∃ (j2 : Nat) (e2 p2 : Int), Hid (PcS w C X S tg nm rs (.slice va rs.length vc) j2 n' e2 p2 w') ∧ j ≤ j2 ∧ j2 ≤ S.length ∧ (okC e2 p2 = true → j2 = j + 1) := cGp.mono (by
                rintro x w' ⟨rfl, k', e', p', g, h1, h2, h3⟩
                exact ⟨rfl, k', e', p', hL8.call hCX hC g.base g.cmd h1 h2 (fun _ => hL8.num ho1), h1, h2, h3⟩)
              have hmany := hL8.many
              go_upto_region 12 with (go_at_call 41; (((with_reducible refine cGp.mono ?_); rintro e4 w8 ⟨rfl, j2, e2, p2, HQ, hj12, hj2, hog⟩)))
              clear cGp HL8 hL8 HT
              have hQ := HQ.out
              have cO2 := okC_any C S j2 n' e2 p2 w8 hQ.cmd.cmd hQ.cmd.fine
              cases ho2 : okC e2 p2 with
              | false =>
                rw [ho2] at cO2
                go_wp2_with (go_at_call 40; (((with_reducible refine cO2.mono ?_); rintro e4 w9 ⟨rfl, m9, hw9⟩; have h9 : Below w8.heap.size w8 w9 := hw9 ▸ below_drewN (Below.refl _ _) m9; clear hw9; have hq := hQ.under hCX hC h9)))
                go_roundg g'
                case measure => omega
                case rel => exact ⟨j2, n', e2, p2, rs, va, vc, hq, by rw [ho2]; simp only [Bool.false_eq_true, if_false]; omega⟩
              | true =>
                rw [ho2] at cO2
                have hjj := hog ho2
                go_upto_region 13 with (go_at_call 40; (((with_reducible refine cO2.mono ?_); rintro e4 w9 ⟨rfl, m9, hw9⟩; have h9 : Below w8.heap.size w8 w9 := hw9 ▸ below_drewN (Below.refl _ _) m9; clear hw9; have hq := hQ.under hCX hC h9)))
                clear cO2 h9 hQ HQ hog
                have hLd := hq.under hCX hC (Below.refl _ w9).drew
                have hS0 : (fun _ : World => True) w9.drew := trivial
                have hS1 : (fun W : World => W.cell? ⟨X, 2, none⟩ = some (.slice va rs.length vc)) w9.drew := (three_cells hLd.cell).2.2
                have cA := argC_any 7 0 (by omega) (by omega) w C S j2 n' e2 p2 w9.drew hC hLd.cmd hS hLd.hi ho2 (hLd.num ho2) (fun W h => HG.out.below (h.below (Nat.le_refl _) (fun i e => by omega)))
                obtain ⟨i0, hi, hz0, hz1, hz2⟩ := info_parts argL_info
                have HLD := Lib.hid hLd
                clear hLd hq
                go_upto_region 13 with fail
                refine until_start (S := fun W => W.cell? ⟨X, 2, none⟩ = some (.slice va rs.length vc)) (S0 := fun _ => True) (t := 7) (by kernel_rfl) ?_
                generalize w9.drew = wd at *
                refine until_take0 (i := 0) (v := ?v0) rfl (by kernel_rfl) (by kernel_rfl) (by kernel_rfl) (by rfl) (fun _ _ _ h => h) (Or.inl ⟨by rfl, ?y0⟩) hS0 (fun _ => hS1) ?r0
                case y0 => (intro W hSw; (try dsimp only at hSw); go_simp; try with_reducible rfl)
                try simp only [Act.put, List.setIfInBounds_toArray, List.set_cons_zero, List.set_cons_succ]
                refine until_take (i := 1) (v := ?v1) rfl (by kernel_rfl) (by kernel_rfl) (by kernel_rfl) (by kernel_rfl) (fun _ _ _ h => h) (Or.inl ⟨by rfl, ?y1⟩) hS0 hS1 ?r1
                case y1 => (intro W hSw; (try dsimp only at hSw); go_simp; try with_reducible rfl)
                try simp only [Act.put, List.setIfInBounds_toArray, List.set_cons_zero, List.set_cons_succ]
                refine until_take0 (i := 2) (v := ?v2) rfl (by kernel_rfl) (by kernel_rfl) (by kernel_rfl) (by rfl) (fun _ _ _ h => h) (Or.inl ⟨by rfl, ?y2⟩) hS0 (fun _ => hS1) ?r2
                case y2 => (intro W hSw; (try dsimp only at hSw); go_simp; try with_reducible rfl)
                try simp only [Act.put, List.setIfInBounds_toArray, List.set_cons_zero, List.set_cons_succ]
                refine until_step (i := 3) (by kernel_rfl) rfl (fun K hK => ?_)
                go_simp
                (with_reducible refine cA.mono ?_)
                rintro e4 w10 ⟨x, xa, xc, j3, n3, e3, p3, rfl, hxl, HWL, HG4, hj23, hj3, ho3, HK4⟩
                have hL4 := HLD.out.call hCX hC HK4.out HG4.out.cmd hj23 hj3 (fun h => (ho3 h).2)
                have HL4 := Lib.hid hL4
                have HO3 := Lib.hid (fun h => (ho3 h).1)
                have HD2 := Lib.hid (three_cells hL4.cell).2.2
                have HSD : Hid (X < wd.heap.size ∧ ∀ g, (Value.slice va rs.length vc).ownBlock = some g → g < wd.heap.size) := Lib.hid ⟨(Array.getElem?_eq_some_iff.1 HLD.out.cell).1, fun g e => (HLD.out.own.lt g e).2⟩
                clear hL4 cA hS0 hS1 HG4 HK4 ho3
                go_wp2_with fail
                refine hK.out _ _ trivial (fun _ _ => HD2.out) ?_
                clear hK K
                try simp only [Act.put, List.setIfInBounds_toArray, List.set_cons_zero, List.set_cons_succ]
                have hBa := alloc_at (o := (.cells #[.int .i64 x.kind, .string ⟨x.text.toArray⟩, .slice xa x.list.length xc] 92)) HL4.out.cell
                have hoa := HL4.out.own.alloc (.cells #[.int .i64 x.kind, .string ⟨x.text.toArray⟩, .slice xa x.list.length xc] 92)
                have hN := World.news_of_block (World.heap_alloc_new w10 (.cells #[.int .i64 x.kind, .string ⟨x.text.toArray⟩, .slice xa x.list.length xc] 92))
                have hsa := alloc_size w10 (.cells #[.int .i64 x.kind, .string ⟨x.text.toArray⟩, .slice xa x.list.length xc] 92)
                have hU4 := (Array.getElem?_eq_some_iff.1 HL4.out.cell).1
                have hba : X + 1 ≤ (w10.alloc (.cells #[.int .i64 x.kind, .string ⟨x.text.toArray⟩, .slice xa x.list.length xc] 92)).heap.size := by rw [hsa]; omega
                have HBA := Lib.hid hBa; have HOA := Lib.hid hoa; have HN := Lib.hid hN; have HSA := Lib.hid hsa
                clear hBa hoa hN hsa
                refine until_step (i := 4) (by kernel_rfl) rfl (fun K hK => ?_)
                go_simp
                refine hK.out _ _ trivial (fun _ _ => (three_cells HBA.out).2.2) ?_
                clear hK K
                try simp only [Act.put, List.setIfInBounds_toArray, List.set_cons_zero, List.set_cons_succ]
                refine until_step (i := 5) (by kernel_rfl) rfl (fun K hK => ?_)
                refine step_append_lies _ (by rfl) (.tmp 45) (.tmp 48) 25 (by rfl) (X + 1) 92 i0 _ 3 48 Tryz.underlying25 hi hz0 hz1 hz2 (by rfl) (by omega) (.slice va rs.length vc) rs.length (wdCells rs) (by rfl) HOA.out ⟨w10.heap.size, 0, none⟩ 1 1 [.int .i64 x.kind, .string ⟨x.text.toArray⟩, .slice xa x.list.length xc] (by rfl) (by rfl) HN.out (by intro u hu; simp only [List.mem_cons, List.not_mem_nil, or_false] at hu; rcases hu with rfl | rfl | rfl <;> rfl) (by omega) (by unfold maxLen; omega) (by omega) hba (w10.heap.size + 1) HSA.out ?_
                intro g2 cap2 w11 ho6 hg6 hat6 hl6
                have hU6 : w11.heap[X]? = some (.cells #[.string tg, .string nm, .slice va rs.length vc] 48 (0, 0)) := (hg6.block X (by rw [HSA.out]; omega) (fun e => by have := (HL4.out.own.lt X e.symm).1; omega)).trans HBA.out
                have hL7 := HL4.out.push HCE.out HXE.out hFlt (by omega) x (.slice xa x.list.length xc) wd.heap.size HSD.out.1 HSD.out.2 hxl HWL.out ho6 hg6 hat6
                have f6 : w11.frozen? ⟨X, 2, none⟩ = false := Lib.frozen_of_heap hU6 2
                have d6 := (three_cells hU6).2.2
                have HL7 := Lib.hid hL7
                have HU6 := Lib.hid hU6
                clear hL7 ho6 hg6 hat6 hl6 HOA HN HBA hba hU6
                refine hK.out _ _ trivial (fun _ _ => (three_cells HU6.out).2.2) ?_
                clear hK K
                try simp only [Act.put, List.setIfInBounds_toArray, List.set_cons_zero, List.set_cons_succ]
                refine until_step (i := 6) (by kernel_rfl) rfl (fun K hK => ?_)
                go_simp
                refine hK.out _ _ trivial (fun _ _ => (three_cells HU6.out).2.2) ?_
                clear hK K
                try simp only [Act.put, List.setIfInBounds_toArray, List.set_cons_zero, List.set_cons_succ]
                refine until_step (i := 7) (by kernel_rfl) rfl (fun K hK => ?_)
                go_simp
                refine hK.out _ _ trivial (fun h _ => absurd rfl h) ?_
                clear hK K
                try simp only [Act.put, List.setIfInBounds_toArray, List.set_cons_zero, List.set_cons_succ]
                refine until_done (by kernel_rfl) ?_ _
                go_wp2_with fail
                go_roundg g'
                case measure => omega
                case rel =>
                  have hlen : (rs ++ [(x, Value.slice xa x.list.length xc)]).length = rs.length + 1 := by simp
                  refine ⟨j3, n3, e3, p3, rs ++ [(x, Value.slice xa x.list.length xc)], some ⟨g2, 0, none⟩, cap2, by rw [hlen]; exact HL7, ?_⟩
                  cases h3 : okC e3 p3 with
                  | true =>
                    have := HO3.out h3
                    simp only [if_true]
                    omega
                  | false =>
                    simp only [Bool.false_eq_true, if_false]
                    omega
            | false =>
              clear HT hgk
              have cO := okC_any C S j n' e' p' wc hL8.cmd.cmd hL8.cmd.fine
              go_upto_region 14 with fail
              go_cut [62] (fun s62 wx => ∃ T : Bool, s62 = .bool T ∧ Hid (PcS w C X S tg nm rs (.slice va rs.length vc) j n' e' p' wx))
              case first =>
                cases ho : okC e' p' with
                | false =>
                  rw [ho] at cO
                  go_wp2_with (go_at_call 40; (((with_reducible refine cO.mono ?_); rintro e4 w9 ⟨rfl, m9, hw9⟩; have h9 : Below wc.heap.size wc w9 := hw9 ▸ below_drewN (Below.refl _ _) m9; clear hw9; have hq := hL8.under hCX hC h9)))
                  go_meet
                  exact ⟨false, rfl, hq⟩
                | true =>
                  rw [ho] at cO
                  go_wp2_with (go_at_call 40; (((with_reducible refine cO.mono ?_); rintro e4 w7 ⟨rfl, m9, hw9⟩; have h9 : Below wc.heap.size wc w7 := hw9 ▸ below_drewN (Below.refl _ _) m9; clear hw9; have hq := hL8.under hCX hC h9; obtain ⟨c0, c1, c2, c3, c4⟩ := five_cellsC hq.cmd.cmd)))
                  go_meet
                  exact ⟨_, rfl, hq⟩
              case rest =>
                obtain ⟨T, rfl, HL9⟩ := hcut
                clear cO hL8 HL8
                have hL9 := HL9.out
                go_upto_if 62 with fail
                go_cut [] (fun wx => ∃ (j : Nat) (e p : Int), Hid (PcS w C X S tg nm rs (.slice va rs.length vc) j n' e p wx))
                case first =>
                  cases T with
                  | false =>
                    go_wp2_with fail
                    go_meet
                    exact ⟨j, e', p', HL9⟩
                  | true =>
                    have cF := failC_any C S j n' e' p' 3 _ hL9.cmd.cmd hL9.cmd.fine
                    go_wp2_with (go_at_call 44; (((with_reducible refine cF.mono ?_); rintro e4 w9 ⟨rfl, hc9, hk9⟩)))
                    go_meet
                    exact ⟨j, _, _, hL9.call hCX hC hk9 hc9 (Nat.le_refl _) hL9.hi (fun h => absurd h (by rw [fail_noE]; decide))⟩
                case rest =>
                  obtain ⟨j3, e3, p3, HLT⟩ := hcut
                  clear hL9 HL9
                  have hLT := HLT.out
                  have cO3 := okC_any C S j3 n' e3 p3 wc hLT.cmd.cmd hLT.cmd.fine
                  have hwR : w.heap.size ≠ w.heap.size + 1 := by omega
                  cases ho3 : okC e3 p3 with
                  | false =>
                    rw [ho3] at cO3
                    go_upto_region 17 with (go_at_call 40; (((with_reducible refine cO3.mono ?_); rintro e4 w11 ⟨rfl, m9, hw9⟩; have h9 : Below wc.heap.size wc w11 := hw9 ▸ below_drewN (Below.refl _ _) m9; clear hw9; have hq := hLT.under hCX hC h9)))
                    clear cO3 h9 hLT HLT
                    obtain ⟨c0, c1, c2, c3, c4⟩ := five_cellsC hq.cmd.cmd
                    obtain ⟨r0, r1, r2⟩ := three_cells hq.r1
                    have q0 : w11.cell? ⟨w.heap.size + 1, 0, none⟩ = some (.int .i64 0) := by rw [Lib.cell_of_heap hq.r2]; rfl
                    have q1 : w11.cell? ⟨w.heap.size + 1, 1, none⟩ = some (.int .i64 0) := by rw [Lib.cell_of_heap hq.r2]; rfl
                    have fz1 := Lib.frozen_of_heap hq.r1
                    have fz2 := Lib.frozen_of_heap hq.r2
                    have hbw : Below w.heap.size w w11 := hq.cmd.base.below (Nat.le_refl _) (fun i e => by omega)
                    have hb1 := hq.r1
                    have hb2 := hq.r2
                    clear hq
                    go_region_with (fail)
                    all_goals
                      go_wp2_with fail
                      exact pc_drew hbw hb1 hb2 none [] 0 0 rfl (wordsL_nil _ _) ⟨#[]⟩ ⟨#[]⟩ e3 p3 rfl rfl rfl
                  | true =>
                    rw [ho3] at cO3
                    go_upto_region 18 with (go_at_call 40; (((with_reducible refine cO3.mono ?_); rintro e4 w11 ⟨rfl, m9, hw9⟩; have h9 : Below wc.heap.size wc w11 := hw9 ▸ below_drewN (Below.refl _ _) m9; clear hw9; have hq := hLT.under hCX hC h9)))
                    clear cO3 h9 hLT HLT
                    obtain ⟨f0, f1⟩ := hq.cmd.fine
                    obtain ⟨a0, a1, a2⟩ := three_cells hq.cell
                    obtain ⟨r0, r1, r2⟩ := three_cells hq.r1
                    have q0 : w11.cell? ⟨w.heap.size + 1, 0, none⟩ = some (.int .i64 0) := by rw [Lib.cell_of_heap hq.r2]; rfl
                    have q1 : w11.cell? ⟨w.heap.size + 1, 1, none⟩ = some (.int .i64 0) := by rw [Lib.cell_of_heap hq.r2]; rfl
                    have fz1 := Lib.frozen_of_heap hq.r1
                    have fz2 := Lib.frozen_of_heap hq.r2
                    have hbw : Below w.heap.size w w11 := hq.cmd.base.below (Nat.le_refl _) (fun i e => by omega)
                    have hb1 := hq.r1
                    have hb2 := hq.r2
                    have hwl := Lib.hid ((wordsL_own (ok := fun i => X < i) hq.own rfl (fun g e => (hq.own.lt g e).1) (fun x hx => by have := (hq.words x hx).1; omega) (fun x hx => (hq.words x hx).2.weak (fun i hi => hi.1))).weak (ok' := fun j => w.heap.size + 2 ≤ j) (fun j hj => by have := HXE.out; omega))
                    clear hq
                    go_region_with (fail)
                    all_goals
                      go_wp2_with fail
                      exact pc_drew hbw hb1 hb2 va (rs.map (·.1)) rs.length vc (List.length_map _) hwl.out tg nm 0 (-1) rfl rfl rfl
end Go.Proofs.YtcahhnjponeeeaaGreatDoor
