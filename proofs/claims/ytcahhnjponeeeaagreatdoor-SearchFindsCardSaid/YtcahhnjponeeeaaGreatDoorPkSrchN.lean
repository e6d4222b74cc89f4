/- How a key lies in memory; what search's key and keys bring; a row of keys that grows. No condition beyond those each names. The walk over search's keys: where key brings what its plain function says, keys does, too. No condition beyond those each names. The walk over search's key: too deep or too many; no word; a list. Conditions: none beyond those each names. The walk over search's key, at a word: a flag, a number, ALL. Conditions: flags.system, strconv's table of powers and its two errors, bytealg.MaxLen and the handle of error lie as the program's text lays them. The walk over search's key, at a word: NOT. Conditions: flags.system, strconv's table of powers and its two errors, bytealg.MaxLen and the handle of error lie as the program's text lays them. The walk over search's key, at a word: OR. Conditions: flags.system, strconv's table of powers and its two errors, bytealg.MaxLen and the handle of error lie as the program's text lays them. The walk over search's key, at a word: FROM, TO, BODY, TEXT, HEADER. Conditions: flags.system, strconv's table of powers and its two errors, bytealg.MaxLen and the handle of error lie as the program's text lays them. The walk over search's key, at a word: SUBJECT, CC, KEYWORD, UNKEYWORD, UID, or a set. Conditions: flags.system, strconv's table of powers and its two errors, bytealg.MaxLen and the handle of error lie as the program's text lays them. The walk over search's key: a list of words. No condition beyond those each names. The walk over search's key, whatever the words: it brings what its plain function says. Conditions: flags.system, strconv's table of powers and its two errors, bytealg.MaxLen and the handle of error lie as the program's text lays them. The walk over search.Parse: it returns the key that the plain reader reads, or its error. Conditions: flags.system, strconv's table of powers and its two errors, bytealg.MaxLen and the handle of error lie as the program's text lays them. -/
import Derived.Maps.AppendAt
import Derived.Deep.AppendLies
import Derived.Deep.DeepCutAuto
import Derived.Deep.CutBlock
import Derived.Deep.RegionHeld3
import Derived.Recover
import Derived.WalkSpells
import Derived.Test.YtcahhnjponeeeaaGreatDoorPkPSearch3
import Derived.Test.YtcahhnjponeeeaaGreatDoorPkHeldS
import Derived.Test.YtcahhnjponeeeaaGreatDoorPkSrchC
namespace Go.Proofs.YtcahhnjponeeeaaGreatDoor
open Go.RowKit Go.Shelf Go.Sort
set_option linter.unusedSimpArgs false
theorem kset_six {w : World} {U : Nat} {a b c d e f : Value} {T : TypeId} (h : w.heap[U]? = some (.cells #[a, b, c, d, e, f] T (0, 0))) (x0 x1 x2 x3 x4 x5 : Value) :
    ((((((w.setCell ⟨U, 0, none⟩ x0).setCell ⟨U, 1, none⟩ x1).setCell ⟨U, 2, none⟩ x2).setCell ⟨U, 3, none⟩ x3).setCell ⟨U, 4, none⟩ x4).setCell ⟨U, 5, none⟩ x5).heap[U]? = some (.cells #[x0, x1, x2, x3, x4, x5] T (0, 0)) := by
  simp only [World.setCell, Array.getElem?_modify, if_pos, h]
  simp
theorem ksix_cells {w : World} {U : Nat} {a b c d e f : Value} {t : TypeId} {fz : Nat × Nat} (h : w.heap[U]? = some (.cells #[a, b, c, d, e, f] t fz)) :
    w.cell? ⟨U, 0, none⟩ = some a ∧ w.cell? ⟨U, 1, none⟩ = some b ∧ w.cell? ⟨U, 2, none⟩ = some c ∧ w.cell? ⟨U, 3, none⟩ = some d ∧ w.cell? ⟨U, 4, none⟩ = some e ∧ w.cell? ⟨U, 5, none⟩ = some f := by
  refine ⟨?_, ?_, ?_, ?_, ?_, ?_⟩ <;> (rw [Lib.cell_of_heap h]; rfl)
theorem ksix_heap (W : World) {U : Nat} (x0 x1 x2 x3 x4 x5 : Value) (k : Nat) (hk : k ≠ U) : ((((((W.setCell ⟨U, 0, none⟩ x0).setCell ⟨U, 1, none⟩ x1).setCell ⟨U, 2, none⟩ x2).setCell ⟨U, 3, none⟩ x3).setCell ⟨U, 4, none⟩ x4).setCell ⟨U, 5, none⟩ x5).heap[k]? = W.heap[k]? := by
  rw [Below.heap_setCell _ _ _ _ hk, Below.heap_setCell _ _ _ _ hk, Below.heap_setCell _ _ _ _ hk, Below.heap_setCell _ _ _ _ hk, Below.heap_setCell _ _ _ _ hk, Below.heap_setCell _ _ _ _ hk]
theorem ksix_size (W : World) {U : Nat} (x0 x1 x2 x3 x4 x5 : Value) : ((((((W.setCell ⟨U, 0, none⟩ x0).setCell ⟨U, 1, none⟩ x1).setCell ⟨U, 2, none⟩ x2).setCell ⟨U, 3, none⟩ x3).setCell ⟨U, 4, none⟩ x4).setCell ⟨U, 5, none⟩ x5).heap.size = W.heap.size := by
  simp [World.setCell]
theorem ksix_kept {S : Nat → Prop} {w W : World} (h : Kept S w W) {U : Nat} (hU : w.heap.size ≤ U) (x0 x1 x2 x3 x4 x5 : Value) : Kept S w ((((((W.setCell ⟨U, 0, none⟩ x0).setCell ⟨U, 1, none⟩ x1).setCell ⟨U, 2, none⟩ x2).setCell ⟨U, 3, none⟩ x3).setCell ⟨U, 4, none⟩ x4).setCell ⟨U, 5, none⟩ x5) :=
  (((((h.setNew (p := ⟨U, 0, none⟩) hU _).setNew (p := ⟨U, 1, none⟩) hU _).setNew (p := ⟨U, 2, none⟩) hU _).setNew (p := ⟨U, 3, none⟩) hU _).setNew (p := ⟨U, 4, none⟩) hU _).setNew (p := ⟨U, 5, none⟩) hU _
/-- a key by its six cells, in blocks that are such as ok says -/
inductive KeyC (W : World) (ok : Nat → Prop) : List Value → KeyP → Prop
  | mk (code : Int) (name text : List UInt8) (n : Int) (set : List Rg) (keys : List KeyP) (sa ka : Option Addr) (sc kc : Nat) (vs : Nat → List Value) :
      text.length ≤ 2000000 → set.length ≤ sc → sc ≤ 9223372036854775807 → (sa = none → sc = 0) →
      (∀ (j : Nat) (r : Rg), set[j]? = some r → ∃ g off, sa = some ⟨g, off, none⟩ ∧ ok g ∧ g < W.heap.size ∧ W.cell? ⟨g, off + j * 2, none⟩ = some (.int .i64 r.1) ∧ W.cell? ⟨g, off + j * 2 + 1, none⟩ = some (.int .i64 r.2)) →
      (code = 13 → keys ≠ []) → keys.length ≤ kc → kc ≤ 9223372036854775807 →
      (∀ (j : Nat) (t : KeyP), keys[j]? = some t → ∃ g off, ka = some ⟨g, off, none⟩ ∧ ok g ∧ g < W.heap.size ∧ ∀ (i : Nat) (u : Value), (vs j)[i]? = some u → W.cell? ⟨g, off + j * 6 + i, none⟩ = some u) →
      (∀ (j : Nat) (t : KeyP), keys[j]? = some t → KeyC W ok (vs j) t) →
      KeyC W ok [.int .i64 code, .string ⟨name.toArray⟩, .string ⟨text.toArray⟩, .int .i64 n, .slice sa set.length sc, .slice ka keys.length kc] (.mk code name text n set keys)
theorem KeyC.keep {W W' : World} {ok ok' : Nat → Prop} {cs : List Value} {k : KeyP} (h : KeyC W ok cs k) (hs : W.heap.size ≤ W'.heap.size) (hk : ∀ j, ok j → j < W.heap.size → W'.heap[j]? = W.heap[j]?) (hok : ∀ j, ok j → j < W.heap.size → ok' j) : KeyC W' ok' cs k := by
  induction h with
  | mk code name text n set keys sa ka sc kc vs h1 h2 h3 h4 h5 h6 h7 h8 h9 _ ih =>
    refine .mk code name text n set keys sa ka sc kc vs h1 h2 h3 h4 (fun j r hj => ?_) h6 h7 h8 (fun j t hj => ?_) ih
    · obtain ⟨g, off, e, o, l, c0, c1⟩ := h5 j r hj
      exact ⟨g, off, e, hok g o l, Nat.lt_of_lt_of_le l hs, (World.cell?_of_block (w := W) (a := ⟨g, off + j * 2, none⟩) (hk g o l)).trans c0, (World.cell?_of_block (w := W) (a := ⟨g, off + j * 2 + 1, none⟩) (hk g o l)).trans c1⟩
    · obtain ⟨g, off, e, o, l, c⟩ := h9 j t hj
      exact ⟨g, off, e, hok g o l, Nat.lt_of_lt_of_le l hs, fun i u hi => (World.cell?_of_block (w := W) (a := ⟨g, off + j * 6 + i, none⟩) (hk g o l)).trans (c i u hi)⟩
theorem KeyC.six {W : World} {ok : Nat → Prop} {cs : List Value} {k : KeyP} (h : KeyC W ok cs k) : ∃ (code : Int) (name text : List UInt8) (n : Int) (set : List Rg) (keys : List KeyP) (sa ka : Option Addr) (sc kc : Nat), cs = [.int .i64 code, .string ⟨name.toArray⟩, .string ⟨text.toArray⟩, .int .i64 n, .slice sa set.length sc, .slice ka keys.length kc] := by
  cases h with
  | mk code name text n set keys sa ka sc kc => exact ⟨code, name, text, n, set, keys, sa, ka, sc, kc, rfl⟩
/-- a key that has neither a set nor keys -/
theorem keyC_leaf (W : World) (ok : Nat → Prop) (code : Int) (name text : List UInt8) (n : Int) (ht : text.length ≤ 2000000) (hc : code ≠ 13) : KeyC W ok [.int .i64 code, .string ⟨name.toArray⟩, .string ⟨text.toArray⟩, .int .i64 n, .slice none 0 0, .slice none 0 0] (.mk code name text n [] []) :=
  .mk code name text n [] [] none none 0 0 (fun _ => []) ht (Nat.zero_le _) (by decide) (fun _ => rfl) (fun j r h => by simp at h) (fun h => absurd h hc) (Nat.zero_le _) (by decide) (fun j r h => by simp at h) (fun j r h => by simp at h)
theorem rg_slice {W : World} {v : Value} {l : List Rg} (h : RgRow W v l) : ∃ a c, v = .slice a l.length c := by
  obtain ⟨a, c, rfl, _⟩ := h
  exact ⟨a, c, rfl⟩
/-- a key with a set -/
theorem keyC_set {W : World} {ok : Nat → Prop} {code : Int} {set : List Rg} {a : Option Addr} {m c : Nat} (hr : RgRow W (.slice a m c) set) (ho : ∀ g, (Value.slice a m c).ownBlock = some g → ok g) (hc : code ≠ 13) : KeyC W ok [.int .i64 code, .string ⟨#[]⟩, .string ⟨#[]⟩, .int .i64 0, .slice a m c, .slice none 0 0] (.mk code [] [] 0 set []) := by
  obtain ⟨ao, cap, e, h1, h2, h3⟩ := hr
  cases e
  refine .mk code [] [] 0 set [] a none c 0 (fun _ => []) (Nat.zero_le _) h1 h2.1 h2.2 (fun j r hj => ?_) (fun h => absurd h hc) (Nat.zero_le _) (by decide) (fun j r h => by simp at h) (fun j r h => by simp at h)
  obtain ⟨b, off, rfl, hb, c0, c1⟩ := h3 j r hj
  exact ⟨b, off, rfl, ho b rfl, hb, c0, c1⟩
/-- a key of one, or two, keys that lie in a block -/
theorem keyC_one {W : World} {ok : Nat → Prop} {code : Int} {N : Nat} {a b c d e f : Value} {k : KeyP} {T : TypeId} (hN : W.heap[N]? = some (.cells #[a, b, c, d, e, f] T (0, 0))) (ho : ok N) (hk : KeyC W ok [a, b, c, d, e, f] k) : KeyC W ok [.int .i64 code, .string ⟨#[]⟩, .string ⟨#[]⟩, .int .i64 0, .slice none 0 0, .slice (some ⟨N, 0, none⟩) 1 1] (.mk code [] [] 0 [] [k]) := by
  refine .mk code [] [] 0 [] [k] none (some ⟨N, 0, none⟩) 0 1 (fun _ => [a, b, c, d, e, f]) (Nat.zero_le _) (Nat.zero_le _) (by decide) (fun _ => rfl) (fun j r h => by simp at h) (fun _ h => by cases h) (Nat.le_refl _) (by decide) (fun j t hj => ?_) (fun j t hj => ?_)
  · match j, hj with
    | 0, hj =>
      refine ⟨N, 0, rfl, ho, (Array.getElem?_eq_some_iff.1 hN).1, fun i u hu => ?_⟩
      rw [show 0 + 0 * 6 + i = i by omega, Lib.cell_of_heap hN]
      simpa using hu
  · match j, hj with
    | 0, hj => simp at hj; subst hj; exact hk
theorem keyC_two {W : World} {ok : Nat → Prop} {code : Int} {N : Nat} {a b c d e f a' b' c' d' e' f' : Value} {k k' : KeyP} {T : TypeId} (hN : W.heap[N]? = some (.cells #[a, b, c, d, e, f, a', b', c', d', e', f'] T (0, 0))) (ho : ok N) (hc : code ≠ 13) (hk : KeyC W ok [a, b, c, d, e, f] k) (hk' : KeyC W ok [a', b', c', d', e', f'] k') : KeyC W ok [.int .i64 code, .string ⟨#[]⟩, .string ⟨#[]⟩, .int .i64 0, .slice none 0 0, .slice (some ⟨N, 0, none⟩) 2 2] (.mk code [] [] 0 [] [k, k']) := by
  refine .mk code [] [] 0 [] [k, k'] none (some ⟨N, 0, none⟩) 0 2 (fun j => if j = 0 then [a, b, c, d, e, f] else [a', b', c', d', e', f']) (Nat.zero_le _) (Nat.zero_le _) (by decide) (fun _ => rfl) (fun j r h => by simp at h) (fun h => absurd h hc) (Nat.le_refl _) (by decide) (fun j t hj => ?_) (fun j t hj => ?_)
  · match j, hj with
    | 0, hj =>
      refine ⟨N, 0, rfl, ho, (Array.getElem?_eq_some_iff.1 hN).1, fun i u hu => ?_⟩
      rw [show 0 + 0 * 6 + i = i by omega, Lib.cell_of_heap hN]
      match i, hu with
      | 0, hu => exact hu
      | 1, hu => exact hu
      | 2, hu => exact hu
      | 3, hu => exact hu
      | 4, hu => exact hu
      | 5, hu => exact hu
    | 1, hj =>
      refine ⟨N, 0, rfl, ho, (Array.getElem?_eq_some_iff.1 hN).1, fun i u hu => ?_⟩
      rw [show 0 + 1 * 6 + i = 6 + i by omega, Lib.cell_of_heap hN]
      match i, hu with
      | 0, hu => exact hu
      | 1, hu => exact hu
      | 2, hu => exact hu
      | 3, hu => exact hu
      | 4, hu => exact hu
      | 5, hu => exact hu
  · match j, hj with
    | 0, hj => simp at hj; subst hj; exact hk
    | 1, hj => simp at hj; subst hj; exact hk'
/-- what key brings -/
def KeyS (w0 : World) (P : Nat) (r : KeyE) (w : World) (e : Ending) (w' : World) : Prop := match r with
  | .error E => FailsK P E w e w'
  | .ok (k, l', n') => ∃ v cs, e = .returned (.agg cs.toArray) ∧ KeyC w' (fun j => w.heap.size ≤ j) cs k ∧ StK w0 P n' v l' w' ∧ Kept (fun k => k = P) w w'
theorem keyS_bad {w0 : World} {P E : Nat} {r : KeyE} {w : World} {e : Ending} {w' : World} (h : r = .error E) (hf : FailsK P E w e w') : KeyS w0 P r w e w' := by subst h; exact hf
/-- what holds in key: the result's block, and the parser -/
structure KeyW (w0 w : World) (P n : Nat) (v : Value) (l : List Wd) (wr : World) : Prop where
  st : StK w0 P n v l wr
  res : wr.heap[w.heap.size]? = some (.cells zero6 32 (0, 0))
  kept : Kept (fun k => k = P) w wr
theorem KeyW.under {w0 w wr w' : World} {P n : Nat} {v : Value} {l : List Wd} (h : KeyW w0 w P n v l wr) (hb : Below wr.heap.size wr w') : KeyW w0 w P n v l w' :=
  ⟨h.st.under hb, below_same hb h.res, kept_of h.kept hb⟩
theorem KeyW.next {w0 w wr w' : World} {P n n' : Nat} {v v' : Value} {l l' : List Wd} (h : KeyW w0 w P n v l wr) (hP : P < w.heap.size) (hk : Kept (fun k => k = P) wr w') (hs : StK w0 P n' v' l' w') : KeyW w0 w P n' v' l' w' :=
  ⟨hs, hk.obj h.res (by omega), h.kept.trans hk⟩
theorem KeyW.size {w0 w wr : World} {P n : Nat} {v : Value} {l : List Wd} (h : KeyW w0 w P n v l wr) : w.heap.size < wr.heap.size := (Array.getElem?_eq_some_iff.1 h.res).1
/-- the world in which key, and keys, begin -/
theorem keyW_start {w0 w : World} {P n : Nat} {v : Value} {l : List Wd} (h : StK w0 P n v l w) : KeyW w0 w P n v l (w.alloc (.cells zero6 32)) :=
  ⟨h.under ((Below.refl _ _).alloc (Nat.le_refl _) _), World.heap_alloc_new _ _, (Kept.refl _ _).alloc _⟩
theorem KeyW.count {w0 w wr : World} {P n : Nat} {v : Value} {l : List Wd} (h : KeyW w0 w P n v l wr) (hP : P < w.heap.size) (m : Nat) : KeyW w0 w P m v l (wr.setCell ⟨P, 1, none⟩ (.int .i64 (m : Int))) := by
  have hk : Kept (fun k => k = P) wr (wr.setCell ⟨P, 1, none⟩ (.int .i64 (m : Int))) := (Kept.refl _ _).setB _
  exact h.next hP hk (h.st.next hk (set2_1 h.st.pars) (h.st.words.kept hk h.st.low h.st.base.size))
/-- a key is laid as the result -/
theorem KeyW.done {w0 w wr : World} {P n : Nat} {v : Value} {l : List Wd} (h : KeyW w0 w P n v l wr) (hP : P < w.heap.size) {a b c d e f : Value} {k : KeyP} (hk : KeyC wr (fun j => w.heap.size < j) [a, b, c, d, e, f] k) {r : KeyE} (hr : r = .ok (k, l, n)) :
    KeyS w0 P r w (.returned (.agg #[a, b, c, d, e, f])) ((((((wr.setCell ⟨w.heap.size, 0, none⟩ a).setCell ⟨w.heap.size, 1, none⟩ b).setCell ⟨w.heap.size, 2, none⟩ c).setCell ⟨w.heap.size, 3, none⟩ d).setCell ⟨w.heap.size, 4, none⟩ e).setCell ⟨w.heap.size, 5, none⟩ f) := by
  subst hr
  have hB : w0.heap.size ≤ w.heap.size := by have := h.st.low; omega
  refine ⟨v, [a, b, c, d, e, f], rfl, ?_, ⟨?_, h.st.low, ?_, ?_⟩, ksix_kept h.kept (Nat.le_refl _) _ _ _ _ _ _⟩
  · exact hk.keep (by rw [ksix_size]; exact Nat.le_refl _) (fun j hj _ => ksix_heap _ _ _ _ _ _ _ _ (by omega)) (fun j hj _ => Nat.le_of_lt hj)
  · exact (ksix_kept (S := fun _ => False) (kept_below h.st.base) hB a b c d e f).below (Nat.le_refl _) (fun k h => h.elim)
  · exact (ksix_heap _ _ _ _ _ _ _ _ (by omega)).trans h.st.pars
  · exact h.st.words.keep fun j hj => ksix_heap _ _ _ _ _ _ _ _ (by omega)
/-- keys, each by its six cells, in one row -/
def cellsK (l : List (KeyP × List Value)) : List Value := l.flatMap fun x => x.2
theorem cellsK_len : ∀ l : List (KeyP × List Value), (∀ x ∈ l, x.2.length = 6) → (cellsK l).length = l.length * 6
  | [], _ => rfl
  | x :: l, h => by
    have := cellsK_len l (fun y hy => h y (List.mem_cons_of_mem _ hy))
    have h6 := h x List.mem_cons_self
    have e : cellsK (x :: l) = x.2 ++ cellsK l := rfl
    rw [e, List.length_append, this, h6, List.length_cons]; omega
theorem cellsK_at : ∀ (l : List (KeyP × List Value)), (∀ x ∈ l, x.2.length = 6) → ∀ (j : Nat) (x : KeyP × List Value), l[j]? = some x → ∀ (i : Nat) (u : Value), x.2[i]? = some u → (cellsK l)[j * 6 + i]? = some u
  | [], _, j, x, h => by simp at h
  | y :: l, h6, 0, x, h => by
    simp at h; subst h
    intro i u hi
    have e : cellsK (y :: l) = y.2 ++ cellsK l := rfl
    have hl : i < y.2.length := (List.getElem?_eq_some_iff.1 hi).1
    rw [e, Nat.zero_mul, Nat.zero_add, List.getElem?_append_left hl]
    exact hi
  | y :: l, h6, j + 1, x, h => by
    intro i u hi
    have ih := cellsK_at l (fun y hy => h6 y (List.mem_cons_of_mem _ hy)) j x (by simpa using h) i u hi
    have e : cellsK (y :: l) = y.2 ++ cellsK l := rfl
    have hl : y.2.length = 6 := h6 y List.mem_cons_self
    rw [e, List.getElem?_append_right (by omega), hl, show (j + 1) * 6 + i - 6 = j * 6 + i by omega]
    exact ih
theorem keyC_len {W : World} {ok : Nat → Prop} {cs : List Value} {k : KeyP} (h : KeyC W ok cs k) : cs.length = 6 := by
  obtain ⟨_, _, _, _, _, _, _, _, _, _, rfl⟩ := h.six
  rfl
/-- a row of keys, as one key's keys -/
theorem keyC_row {W : World} {B : Nat} {ok : Nat → Prop} {code : Int} {l : List (KeyP × List Value)} {a : Option Addr} {m c : Nat} (h : W.ownsRow B 32 6 (.slice a m c) l.length (cellsK l)) (hok : ∀ g, (Value.slice a m c).ownBlock = some g → ok g) (hk : ∀ x ∈ l, KeyC W ok x.2 x.1) (hc : code ≠ 13) : KeyC W ok [.int .i64 code, .string ⟨#[]⟩, .string ⟨#[]⟩, .int .i64 0, .slice none 0 0, .slice a m c] (.mk code [] [] 0 [] (l.map (·.1))) := by
  have h6 : ∀ x ∈ l, x.2.length = 6 := fun x hx => keyC_len (hk x hx)
  have h0 := h
  rcases h.2 with ⟨e, e0⟩ | ⟨g, cap, cur, e, hg, hh, h3, h4, h5, h6'⟩
  · cases e
    have : l = [] := List.eq_nil_of_length_eq_zero e0
    subst this
    exact keyC_leaf W ok code [] [] 0 (Nat.zero_le _) hc
  · cases e
    have hm : l.length = (l.map (·.1)).length := (List.length_map _).symm
    rw [hm]
    refine .mk code [] [] 0 [] _ none (some ⟨g, 0, none⟩) 0 c (fun j => ((l[j]?).map (·.2)).getD []) (Nat.zero_le _) (Nat.zero_le _) (by decide) (fun _ => rfl) (fun j r h => by simp at h) (fun h => absurd h hc) (by rw [List.length_map]; exact h3) (by unfold maxLen at h4; omega) (fun j t hj => ?_) (fun j t hj => ?_)
    · rw [List.getElem?_map] at hj
      obtain ⟨x, hx, rfl⟩ := Option.map_eq_some_iff.1 hj
      refine ⟨g, 0, rfl, hok g rfl, (Array.getElem?_eq_some_iff.1 hh).1, fun i u hu => ?_⟩
      simp only [hx, Option.map_some, Option.getD_some] at hu
      have hc := cellsK_at l h6 j x hx i u hu
      have := h0.cellAt (j * 6 + i) (by have := (List.getElem?_eq_some_iff.1 hc).1; rw [cellsK_len l h6] at this; exact this)
      rw [Nat.zero_add]
      rw [this, hc]
    · rw [List.getElem?_map] at hj
      obtain ⟨x, hx, rfl⟩ := Option.map_eq_some_iff.1 hj
      simp only [hx, Option.map_some, Option.getD_some]
      exact hk x (List.mem_of_getElem? hx)
section
variable {P : Program} {ops : Array Oper} {rest : List Oper} {o : Oper} {a : Act} {Q : Exit → Act → World → Prop}
/-- append(v, x), v owned, x of six cells in a new block -/
theorem wpList_app6 (hgd : o.guard = none) (s x : Operand) (t : TypeId) (ho : o.op = .call { callee := .builtin .append, args := #[s, x], argTypes := #[t, t] })
    (e : TypeId) {z : Value} {bytes : Nat} (ht : P.underlying t = some (.slice e)) (hinfo : (P.info? e).map (fun i => (i.zero, i.size, i.bytes)) = some (some z, 6, bytes)) (hzs : z.cells.size = 6)
    (base : Nat) (v : Value) (n : Nat) (xs : List Value) (w : World) (hs : a.eval s = v) (hown : w.ownsRow base e 6 v n xs)
    (y0 y1 y2 y3 y4 y5 : Value) (hx : a.eval x = .slice (some ⟨w.heap.size, 0, none⟩) 1 1) (h0 : y0.oneCell' = true) (h1 : y1.oneCell' = true) (h2 : y2.oneCell' = true) (h3 : y3.oneCell' = true) (h4 : y4.oneCell' = true) (h5 : y5.oneCell' = true)
    (hn : n + 1 ≤ 4294967296) (hb : bytes ≤ 200) (hbase : base ≤ w.heap.size)
    (h : ∀ v' w', w'.ownsRow base e 6 v' (n + 1) (xs ++ [y0, y1, y2, y3, y4, y5]) → (w.alloc (.cells #[y0, y1, y2, y3, y4, y5] e)).grownBy w' v.ownBlock → (∀ g, v'.ownBlock = some g → v.ownBlock = some g ∨ g = w.heap.size + 1) → wpList P ops Q rest (a.put o.dst v') w') : wpList P ops Q (o :: rest) a (w.alloc (.cells #[y0, y1, y2, y3, y4, y5] e)) := by
  obtain ⟨i0, hi, hz0, hz1, hz2⟩ := info_parts hinfo
  refine wpList_append_own_at _ hgd s x t ho base e i0 z 6 bytes ht hi hz0 hz1 hz2 hzs (by decide) v n xs hs (hown.alloc _) ⟨w.heap.size, 0, none⟩ 1 1 [y0, y1, y2, y3, y4, y5] hx rfl ?_ ?_ ?_ ?_ ?_ ?_
  · intro j u hj
    match j, hj with
    | 0, hj => simp at hj; subst hj; simp [Addr.add]
    | 1, hj => simp at hj; subst hj; simp [Addr.add]
    | 2, hj => simp at hj; subst hj; simp [Addr.add]
    | 3, hj => simp at hj; subst hj; simp [Addr.add]
    | 4, hj => simp at hj; subst hj; simp [Addr.add]
    | 5, hj => simp at hj; subst hj; simp [Addr.add]
  · intro u hu; simp at hu; rcases hu with rfl | rfl | rfl | rfl | rfl | rfl <;> assumption
  · unfold maxLen; omega
  · have : (n + 1) * bytes ≤ 4294967296 * 200 := Nat.mul_le_mul hn hb
    omega
  · simp; omega
  · intro v' w' k1 k2 _ k4
    refine h v' w' k1 k2 fun g hg => ?_
    rcases k4 with k4 | k4
    · exact Or.inl (k4.symm.trans hg)
    · rw [hg, alloc_size] at k4
      exact Or.inr (Option.some.inj k4)
end
theorem key_info : (Tryz.prog.info? 32).map (fun i => (i.zero, i.size, i.bytes)) = some (some (.agg #[.int .i64 0, .string ByteArray.empty, .string ByteArray.empty, .int .i64 0, .slice none 0 0, .slice none 0 0]), 6, 96) := by kernel_rfl
end Go.Proofs.YtcahhnjponeeeaaGreatDoor
namespace Go.Proofs.YtcahhnjponeeeaaGreatDoor
open Go.RowKit Go.Shelf Go.Sort
set_option linter.unusedSimpArgs false
/-- what keys brings, as a key with no words left -/
def keysE : Except Nat (KeyP × Nat) → KeyE
  | .error e => .error e
  | .ok (k, n) => .ok (k, [], n)
def keysR : Except Nat (List KeyP × Nat) → KeyE
  | .error e => .error e
  | .ok (ks, m) => .ok (allK ks, [], m)
theorem keysE_keys (f : List Wd → Nat → KeyE) (l : List Wd) (n : Nat) : keysE (keysK f l n) = keysR (loopK f (l.length + 1) l n []) := by
  unfold keysK
  cases loopK f (l.length + 1) l n [] with
  | error e => rfl
  | ok x => rfl
/-- the keys so far, in a row of their own -/
structure RowK (w0 w : World) (P n : Nat) (v : Value) (l : List Wd) (items : List (KeyP × List Value)) (kv : Value) (wr : World) : Prop where
  kw : KeyW w0 w P n v l wr
  own : wr.ownsRow (w.heap.size + 1) 32 6 kv items.length (cellsK items)
  kids : ∀ x ∈ items, KeyC wr (fun j => w.heap.size < j ∧ kv.ownBlock ≠ some j) x.2 x.1
theorem parsK_ne {w : World} {P n k : Nat} {v : Value} {c : Array Value} {T : TypeId} {fz : Nat × Nat} (h : ParsK w P v n) (hk : w.heap[k]? = some (.cells c T fz)) (hT : T ≠ 63) : k ≠ P := by
  rintro rfl
  unfold ParsK at h
  rw [hk] at h
  have := congrArg (fun o : Option Obj => match o with | some (.cells _ t _) => t | _ => T) h
  exact hT this
theorem RowK.call {w0 w wr w' : World} {P n n' : Nat} {v v' : Value} {l l' : List Wd} {items : List (KeyP × List Value)} {kv : Value} (h : RowK w0 w P n v l items kv wr) (hP : P < w.heap.size) (hk : Kept (fun k => k = P) wr w') (hs : StK w0 P n' v' l' w') : RowK w0 w P n' v' l' items kv w' := by
  refine ⟨h.kw.next hP hk hs, ?_, fun x hx => ?_⟩
  · refine owns_same h.own fun j o hj hor => hk.obj hj ?_
    obtain ⟨c, fz, rfl⟩ := hor
    exact parsK_ne h.kw.st.pars hj (by decide)
  · exact (h.kids x hx).keep hk.size (fun j hj hl => hk.block j hl (fun e => by have : j = P := e; omega)) (fun j hj _ => hj)
theorem RowK.push {w0 w w4 w6 : World} {P n : Nat} {v : Value} {l : List Wd} {items : List (KeyP × List Value)} {kv kv' : Value} (h : RowK w0 w P n v l items kv w4) (hP : P < w.heap.size) (k : KeyP) (a b c d e f : Value) (H : Nat) (hH : w.heap.size < H) (hv : ∀ g, kv.ownBlock = some g → g < H) (hc : KeyC w4 (fun j => H ≤ j) [a, b, c, d, e, f] k)
    (hown : w6.ownsRow (w.heap.size + 1) 32 6 kv' (items.length + 1) (cellsK items ++ [a, b, c, d, e, f])) (hg : (w4.alloc (.cells #[a, b, c, d, e, f] 32)).grownBy w6 kv.ownBlock) (hat : ∀ g, kv'.ownBlock = some g → kv.ownBlock = some g ∨ g = w4.heap.size + 1) :
    RowK w0 w P n v l (items ++ [(k, [a, b, c, d, e, f])]) kv' w6 := by
  have hPl := h.kw.st.pars.lt
  have hR := h.kw.size
  have hsz := alloc_size w4 (.cells #[a, b, c, d, e, f] 32)
  have hle := hg.size
  have hlow : ∀ j, kv.ownBlock = some j → w.heap.size + 1 ≤ j := fun j e => (h.own.lt j e).1
  have same : ∀ j, j < w4.heap.size → kv.ownBlock ≠ some j → w6.heap[j]? = w4.heap[j]? := fun j hj hne =>
    (hg.block j (by omega) (fun e => hne e.symm)).trans (Below.heap_alloc w4 _ j hj)
  have hB : w0.heap.size ≤ P := h.kw.st.low
  have hb0 : Below w0.heap.size w0 w6 := (h.kw.st.base.alloc h.kw.st.base.size _).grown hg (by have := h.kw.st.base.size; omega) (fun j e => by have := hlow j e; omega)
  refine ⟨⟨⟨hb0, hB, (same P (by omega) (fun e => by have := hlow P e; omega)).trans h.kw.st.pars, h.kw.st.words.keep fun j hj => same j (by omega) (fun e => by have := hlow j e; omega)⟩, (same _ hR (fun e => by have := hlow _ e; omega)).trans h.kw.res, ?_⟩, ?_, ?_⟩
  · have h1 : Below w.heap.size w4 w6 := ((Below.refl w.heap.size w4).alloc h.kw.kept.size _).grown hg (by have := h.kw.kept.size; omega) (fun j e => by have := hlow j e; omega)
    exact h.kw.kept.next h1
  · have e1 : (items ++ [(k, [a, b, c, d, e, f])]).length = items.length + 1 := by simp
    have e2 : cellsK (items ++ [(k, [a, b, c, d, e, f])]) = cellsK items ++ [a, b, c, d, e, f] := by simp [cellsK]
    rw [e1, e2]
    exact hown
  · intro y hy
    have key : ∀ (ok : Nat → Prop) (cs : List Value) (u : KeyP), KeyC w4 ok cs u → (∀ j, ok j → w.heap.size < j ∧ kv.ownBlock ≠ some j) → KeyC w6 (fun j => w.heap.size < j ∧ kv'.ownBlock ≠ some j) cs u := fun ok cs u hr hok => by
      refine hr.keep (by omega) (fun j hj hl => same j hl (hok j hj).2) (fun j hj hl => ⟨(hok j hj).1, fun e => ?_⟩)
      rcases hat j e with h' | h'
      · exact (hok j hj).2 h'
      · omega
    rcases List.mem_append.1 hy with h' | h'
    · exact key _ _ _ (h.kids y h') (fun j hj => hj)
    · rw [List.mem_singleton] at h'
      subst h'
      exact key _ _ _ hc (fun j hj => ⟨by omega, fun e => by have := hv j e; omega⟩)
theorem rowK_start {w0 w : World} {P n : Nat} {v : Value} {l : List Wd} (h : StK w0 P n v l w) : RowK w0 w P n v l [] (.slice none 0 0) (w.alloc (.cells zero6 32)) :=
  ⟨keyW_start h, World.ownsRow_nil _ _ _ _, fun x hx => by cases hx⟩
theorem own_slice6 {w : World} {B : Nat} {e : TypeId} {v : Value} {n : Nat} {xs : List Value} (h : w.ownsRow B e 6 v n xs) : ∃ a c, v = .slice a n c := by
  rcases h.2 with ⟨rfl, h0⟩ | ⟨g, cap, cur, rfl, _⟩
  · exact ⟨none, 0, by rw [h0]⟩
  · exact ⟨_, cap, rfl⟩
/-- what holds at the loop's head: either the keys go on, or all is read -/
def GoesK (f : List Wd → Nat → KeyE) (l : List Wd) (n : Nat) (acc : List KeyP) (R : Except Nat (List KeyP × Nat)) : Prop :=
  if acc ≠ [] ∧ l = [] then R = .ok (acc, n) else ∃ fu, l.length + 1 ≤ fu ∧ loopK f fu l n acc = R
set_option maxRecDepth 100000 in
set_option maxHeartbeats 16000000 in
theorem keys_any (d D : Nat) (hD : D ≤ 7) (w0 : World)
    (IH : ∀ (P n : Nat) (v : Value) (l : List Wd) (w : World), n ≤ 60 → StK w0 P n v l w → Calls Tryz.prog 46 #[.pointer (some ⟨P, 0, none⟩), .int .i64 (D : Int)] w (KeyS w0 P (keyK d l n) w))
    (P n : Nat) (v : Value) (l : List Wd) (w : World) (hn : n ≤ 60) (h : StK w0 P n v l w) :
    Calls Tryz.prog 16 #[.pointer (some ⟨P, 0, none⟩), .int .i64 (D : Int)] w (KeyS w0 P (keysE (keysK (keyK d) l n)) w) := by
  obtain ⟨R, hR⟩ : ∃ R, loopK (keyK d) (l.length + 1) l n [] = R := ⟨_, rfl⟩
  rw [keysE_keys, hR]
  have HR : Hid (GoesK (keyK d) l n [] R) := Lib.hid (by
    unfold GoesK
    rw [if_neg (fun h => h.1 rfl)]
    exact ⟨_, Nat.le_refl _, hR⟩)
  have hs0 := rowK_start h
  have hP := h.pars.lt
  have H0 := Lib.hid hs0
  have hstep := key_step d
  have HS := Lib.hid hstep
  have hsz := alloc_size w (.cells zero6 32)
  have HIH := Lib.hid IH
  clear hR h hs0 hstep IH
  go_enter Tryz.func16, Tryz.ntmps16
  go_wp2_with fail
  go_loopg [5, 6] (l.length + 1) (fun g s5 s6 wr => ∃ (items : List (KeyP × List Value)) (m : Nat) (u : Value) (l' : List Wd), s6 = .bool items.isEmpty ∧ l'.length + 1 ≤ g ∧ items.length ≤ m ∧ m ≤ 60 ∧ Hid (RowK w0 w P m u l' items s5 wr) ∧ Hid (GoesK (keyK d) l' m (items.map (·.1)) R))
  case atStart => exact ⟨[], n, v, l, rfl, Nat.le_refl _, Nat.zero_le _, hn, H0, HR⟩
  case round =>
    clear H0 HR hsz
    obtain ⟨items, m, u, l', rfl, hg, him, hm60, HK, HF⟩ := hrel
    obtain ⟨g', rfl⟩ : ∃ g', gk = g' + 1 := ⟨gk - 1, by omega⟩
    obtain ⟨ka, kc, rfl⟩ := own_slice6 HK.out.own
    obtain ⟨a, c, rfl, hlc, hcm⟩ := HK.out.kw.st.words.val
    obtain ⟨c0, c1⟩ := two_cells HK.out.kw.st.pars
    have f0 := Lib.frozen_of_heap HK.out.kw.st.pars
    by_cases hend : items ≠ [] ∧ l' = []
    · obtain ⟨hne, rfl⟩ := hend
      have HX : Hid (R = .ok (items.map (·.1), m)) := Lib.hid (by
        have := HF.out
        unfold GoesK at this
        rw [if_pos ⟨by simpa using hne, rfl⟩] at this
        exact this)
      clear HF HIH
      cases items with
      | nil => exact absurd rfl hne
      | cons x rest =>
        have hRB := HK.out.kw.res
        obtain ⟨r0, r1, r2, r3, r4, r5⟩ := ksix_cells hRB
        have fz := Lib.frozen_of_heap hRB
        clear hRB
        cases rest with
        | nil =>
          obtain ⟨k, cs⟩ := x
          obtain ⟨code, name, text, kn, set, keys, sa, kb, sc, kcc, hcs⟩ := (HK.out.kids _ List.mem_cons_self).six
          simp only at hcs
          subst hcs
          rcases HK.out.own.2 with ⟨_, e0⟩ | ⟨g, cap, cur, e, hg', hh, h3, h4, h5, h6⟩
          · cases e0
          · cases e
            have hown1 := HK.out.own
            have hcell : ∀ (j : Nat) (u : Value), j < 6 → [Value.int .i64 code, .string ⟨name.toArray⟩, .string ⟨text.toArray⟩, .int .i64 kn, .slice sa set.length sc, .slice kb keys.length kcc][j]? = some u → wr.cell? ⟨g, j, none⟩ = some u := fun j u hj hu => by
              rw [hown1.cellAt j hj]
              exact hu
            have q0 := hcell 0 _ (by decide) rfl
            have q1 := hcell 1 _ (by decide) rfl
            have q2 := hcell 2 _ (by decide) rfl
            have q3 := hcell 3 _ (by decide) rfl
            have q4 := hcell 4 _ (by decide) rfl
            have q5 := hcell 5 _ (by decide) rfl
            clear hcell hh h5 h6 h4 hown1
            go_wp2_with fail
            rw [HX.out]
            refine bodyPost_ret (results_cell_row (P := Tryz.prog) rfl _ _ w.heap.size _ _ _ _ rfl (kset_six HK.out.kw.res _ _ _ _ _ _) Tryz.underlying32 rfl key_size) rfl ?_
            exact HK.out.kw.done hP ((HK.out.kids _ List.mem_cons_self).keep (Nat.le_refl _) (fun _ _ _ => rfl) (fun j hj _ => hj.1)) rfl
        | cons y rest =>
          have hl1 : ((x :: y :: rest).length : Int) ≠ 1 := by simp only [List.length_cons]; omega
          have hl2 : (((x :: y :: rest).length : Int) == 1) = false := by rw [beq_eq_false_iff_ne]; exact hl1
          obtain ⟨L, hL⟩ : ∃ L, (x :: y :: rest).length = L := ⟨_, rfl⟩
          have hie : (x :: y :: rest).isEmpty = false := rfl
          rw [hie]
          rw [hL] at hl1 hl2 ⊢
          have HLL := Lib.hid hL
          clear hL hie
          go_wp2_with fail
          rw [HX.out]
          refine bodyPost_ret (results_cell_row (P := Tryz.prog) rfl _ _ w.heap.size _ _ _ _ rfl (kset_six HK.out.kw.res _ _ _ _ _ _) Tryz.underlying32 rfl key_size) rfl ?_
          refine HK.out.kw.done hP ?_ rfl
          have hrow := keyC_row (ok := fun j => w.heap.size < j) (code := 15) HK.out.own (fun g hg => (HK.out.own.lt g hg).1) (fun z hz => (HK.out.kids z hz).keep (Nat.le_refl _) (fun _ _ _ => rfl) (fun j hj _ => hj.1)) (by decide)
          rw [HLL.out] at hrow
          exact hrow
    · obtain ⟨fu, hfu, hF⟩ : ∃ fu, l'.length + 1 ≤ fu ∧ loopK (keyK d) fu l' m (items.map (·.1)) = R := by
        have := HF.out
        unfold GoesK at this
        rw [if_neg (fun h => hend ⟨by simpa using h.1, h.2⟩)] at this
        exact this
      obtain ⟨fu, rfl⟩ : ∃ f2, fu = f2 + 1 := ⟨fu - 1, by omega⟩
      have cK := HIH.out P m _ l' wr hm60 HK.out.kw.st
      unfold KeyS at cK
      have hlen : items.isEmpty = false → (0 : Int) < (l'.length : Int) := fun h => by
        have : l' ≠ [] := fun e => hend ⟨fun e2 => (by subst e2; cases h), e⟩
        have := List.length_pos_iff.2 this
        omega
      cases hk : keyK d l' m with
      | error E =>
        rw [hk] at cK
        have HX : Hid (R = .error E) := Lib.hid (by rw [← hF, loop_bad hk])
        clear hF HF hk hend
        cases hie : items.isEmpty with
        | true =>
          clear hlen hie
          go_wp2_with ((go_at_call 46; go_loud (((with_reducible refine cK.mono ?_); rintro e w1 h1; obtain ⟨rfl, hk1⟩ := h1))))
          exact ⟨rfl, keyS_bad (by rw [HX.out]; rfl) ⟨rfl, HK.out.kw.kept.trans hk1⟩⟩
        | false =>
          have hl0 := hlen hie
          clear hlen hie
          go_wp2_with ((go_at_call 46; go_loud (((with_reducible refine cK.mono ?_); rintro e w1 h1; obtain ⟨rfl, hk1⟩ := h1))))
          exact ⟨rfl, keyS_bad (by rw [HX.out]; rfl) ⟨rfl, HK.out.kw.kept.trans hk1⟩⟩
      | ok x =>
        obtain ⟨k, l2, m2⟩ := x
        rw [hk] at cK
        obtain ⟨g1, g2, g3⟩ := HS.out _ _ _ _ _ hk
        have HN : Hid (GoesK (keyK d) l2 m2 ((items.map (·.1)) ++ [k]) R) := Lib.hid (by
          unfold GoesK
          rw [loop_more hk] at hF
          by_cases he : l2 = []
          · rw [if_pos he] at hF
            rw [if_pos ⟨by simp, he⟩, hF]
          · rw [if_neg he] at hF
            rw [if_neg (fun h => he h.2)]
            exact ⟨fu, by omega, hF⟩)
        have hil : items.length + 1 ≤ 60 := by omega
        have hwl : ∀ g, (Value.slice ka items.length kc).ownBlock = some g → g < wr.heap.size := fun g hg => (HK.out.own.lt g hg).2
        have hwr : w.heap.size < wr.heap.size := HK.out.kw.size
        clear hF HF hk hend
        cases hie : items.isEmpty with
        | true =>
          clear hlen
          go_wp2_with (first
            | (go_at_call 46; go_loud (((with_reducible refine cK.mono ?_); rintro e w1 h1; obtain ⟨v1, cs, rfl, hc1, st1, hk1⟩ := h1; obtain ⟨code, name, text, kn, set, keys, sa, kb, sc, kcc, rfl⟩ := hc1.six; have hrow1 := HK.out.call hP hk1 st1; have ho1 := hrow1.own; have hbs := hrow1.kw.size)))
            | (at_builtin; go_must (refine wpList_app6 rfl _ _ 30 rfl 32 Tryz.underlying30 key_info rfl (w.heap.size + 1) (.slice ka items.length kc) items.length (cellsK items) w1 rfl ho1 _ _ _ _ _ _ rfl rfl rfl rfl rfl rfl rfl ?c3 (by decide) ?c5 ?_)))
          case c3 => omega
          case c5 => omega
          intro v' w6 hown6 hg6 hat
          obtain ⟨na, nc, rfl⟩ := own_slice6 hown6
          have hnew := hrow1.push hP k _ _ _ _ _ _ wr.heap.size hwr hwl hc1 hown6 hg6 hat
          go_wp2_with fail
          go_roundg g'
          case measure => omega
          case rel => exact ⟨items ++ [(k, _)], m2, v1, l2, by simp, by omega, by simp; omega, g3, Lib.hid hnew, by simpa using HN⟩
        | false =>
          have hl0 := hlen hie
          have hl0n : decide ((0 : Int) < (l'.length : Int)) = true := decide_eq_true hl0
          clear hlen
          go_wp2_with (first
            | (go_at_call 46; go_loud (((with_reducible refine cK.mono ?_); rintro e w1 h1; obtain ⟨v1, cs, rfl, hc1, st1, hk1⟩ := h1; obtain ⟨code, name, text, kn, set, keys, sa, kb, sc, kcc, rfl⟩ := hc1.six; have hrow1 := HK.out.call hP hk1 st1; have ho1 := hrow1.own; have hbs := hrow1.kw.size)))
            | (at_builtin; go_must (refine wpList_app6 rfl _ _ 30 rfl 32 Tryz.underlying30 key_info rfl (w.heap.size + 1) (.slice ka items.length kc) items.length (cellsK items) w1 rfl ho1 _ _ _ _ _ _ rfl rfl rfl rfl rfl rfl rfl ?c3 (by decide) ?c5 ?_)))
          case c3 => omega
          case c5 => omega
          intro v' w6 hown6 hg6 hat
          obtain ⟨na, nc, rfl⟩ := own_slice6 hown6
          have hnew := hrow1.push hP k _ _ _ _ _ _ wr.heap.size hwr hwl hc1 hown6 hg6 hat
          go_wp2_with fail
          go_roundg g'
          case measure => omega
          case rel => exact ⟨items ++ [(k, _)], m2, v1, l2, by simp, by omega, by simp; omega, g3, Lib.hid hnew, by simpa using HN⟩
end Go.Proofs.YtcahhnjponeeeaaGreatDoor
namespace Go.Proofs.YtcahhnjponeeeaaGreatDoor
open Go.RowKit Go.Shelf Go.Sort
set_option linter.unusedSimpArgs false
/-- key's own beginning: the result's block is laid, and the key is counted -/
abbrev keyB (w : World) (P n : Nat) : World := (w.setCell ⟨P, 1, none⟩ (.int .i64 ((n : Int) + 1))).alloc (.cells zero6 32)
theorem keyB_at {w0 w : World} {P n : Nat} {v : Value} {l : List Wd} (h : StK w0 P n v l w) : KeyW w0 w P (n + 1) v l (keyB w P n) := by
  have hk : Kept (fun k => k = P) w (w.setCell ⟨P, 1, none⟩ (.int .i64 ((n + 1 : Nat) : Int))) := (Kept.refl _ _).setB _
  have h1 := keyW_start (h.next hk (set2_1 h.pars) (h.words.kept hk h.low h.base.size))
  refine ⟨h1.st, ?_, hk.trans h1.kept⟩
  have := h1.res
  rw [set_size] at this
  exact this
set_option maxRecDepth 100000 in
set_option maxHeartbeats 8000000 in
theorem key_limit (D : Nat) (hD : D ≤ 7) (w0 : World) (P n : Nat) (v : Value) (l : List Wd) (w : World) (h : StK w0 P n v l w) (hn : n ≤ 60) (hl : 6 < D ∨ 60 < n + 1) : Calls Tryz.prog 46 #[.pointer (some ⟨P, 0, none⟩), .int .i64 (D : Int)] w (KeyS w0 P (.error 4) w) := by
  have cF : ∀ W : World, Calls Tryz.prog 74 #[.int .i64 4] W fun e w' => e = .panicked [{ v := .iface 59 (.agg #[.int .i64 4]), recovered := false }] ∧ w' = W := fun W => failK_any 4 W
  obtain ⟨c0, c1⟩ := two_cells h.pars
  have f1 := Lib.frozen_of_heap h.pars 1
  have hP := h.pars.lt
  have K1 := Lib.hid (keyB_at h)
  clear h
  by_cases h6 : 6 < D
  · have h6z : (6 : Int) < (D : Int) := by omega
    go_enter Tryz.func46, Tryz.ntmps46
    go_wp2_with ((go_at_call 74; go_loud (((with_reducible refine (cF _).mono ?_); rintro e w4 ⟨rfl, hw4⟩; rw [hw4]; clear hw4))))
    exact ⟨rfl, rfl, K1.out.kept⟩
  · have h6z : decide ((6 : Int) < (D : Int)) = false := decide_eq_false (by omega)
    have h60z : (60 : Int) < (n : Int) + 1 := by omega
    go_enter Tryz.func46, Tryz.ntmps46
    go_wp2_with ((go_at_call 74; go_loud (((with_reducible refine (cF _).mono ?_); rintro e w4 ⟨rfl, hw4⟩; rw [hw4]; clear hw4))))
    exact ⟨rfl, rfl, K1.out.kept⟩
set_option maxRecDepth 100000 in
set_option maxHeartbeats 8000000 in
theorem key_none (D : Nat) (hD : D ≤ 6) (w0 : World) (P n : Nat) (v : Value) (w : World) (h : StK w0 P n v [] w) (hn : n + 1 ≤ 60) : Calls Tryz.prog 46 #[.pointer (some ⟨P, 0, none⟩), .int .i64 (D : Int)] w (KeyS w0 P (.error 3) w) := by
  obtain ⟨a, c, rfl, -, -⟩ := h.words.val
  obtain ⟨c0, c1⟩ := two_cells h.pars
  have f1 := Lib.frozen_of_heap h.pars 1
  have hP := h.pars.lt
  have hK1 := keyB_at h
  have h6z : decide ((6 : Int) < (D : Int)) = false := decide_eq_false (by omega)
  have h60z : decide ((60 : Int) < (n : Int) + 1) = false := decide_eq_false (by omega)
  obtain ⟨w1, hw1⟩ : ∃ w1, keyB w P n = w1 := ⟨_, rfl⟩
  rw [hw1] at hK1
  have K1 := Lib.hid hK1
  have HW := Lib.hid hw1
  have cW := word_st hK1.st
  unfold WordS at cW
  clear h hK1 hw1
  go_enter Tryz.func46, Tryz.ntmps46
  go_upto_region 2 with fail
  rw [show (w.setCell ⟨P, 1, none⟩ (.int .i64 ((n : Int) + 1))).alloc (.cells #[.int .i64 0, .string ⟨#[]⟩, .string ⟨#[]⟩, .int .i64 0, .slice none 0 0, .slice none 0 0] 32) = w1 from HW.out]
  clear c0 c1 f1
  obtain ⟨c0, c1⟩ := two_cells K1.out.st.pars
  go_wp2_with ((go_at_call 75; go_loud (((with_reducible refine cW.mono ?_); rintro e w2 h2; obtain ⟨rfl, hk2⟩ := h2))))
  exact ⟨rfl, rfl, K1.out.kept.trans hk2⟩
end Go.Proofs.YtcahhnjponeeeaaGreatDoor
namespace Go.Proofs.YtcahhnjponeeeaaGreatDoor
open Go.RowKit Go.Shelf Go.Sort
set_option linter.unusedSimpArgs false
set_option maxRecDepth 100000 in
set_option maxHeartbeats 16000000 in
theorem key_sys_false (d D : Nat) (hD : D ≤ 6) (w0 : World) (hG : SrG w0) (P n : Nat) (v : Value) (t : Wd) (l : List Wd) (w : World) (h : StK w0 P n v (t :: l) w) (hn : n + 1 ≤ 60) (hk : t.kind ≠ 3) (nm : List UInt8) (hsys : sysK (greatL t.text) = some (nm, false)) :
    Calls Tryz.prog 46 #[.pointer (some ⟨P, 0, none⟩), .int .i64 (D : Int)] w (KeyS w0 P (keyK (d + 1) (t :: l) n) w) := by
  have hr : keyK (d + 1) (t :: l) n = .ok (.mk 2 nm [] 0 [] [], l, n + 1) := by
    rw [keyK_cons, if_neg (by omega), if_neg hk]
    unfold plainK
    rw [hsys]
    rfl
  obtain ⟨R, hR⟩ : ∃ R, keyK (d + 1) (t :: l) n = R := ⟨_, rfl⟩
  rw [hR]
  have HR := Lib.hid (hr.symm.trans hR)
  obtain ⟨a, c, rfl, -, -⟩ := h.words.val
  obtain ⟨g, off, va, vc, rfl, -, hc1, hc2, hg, x0, -, -, ht, -, -⟩ := h.words.cons
  have hP := h.pars.lt
  have hB := h.low
  have hgP : g ≠ P := by omega
  have hK1 := keyB_at h
  obtain ⟨c0, c1⟩ := two_cells h.pars
  have f1 := Lib.frozen_of_heap h.pars 1
  have h6z : decide ((6 : Int) < (D : Int)) = false := decide_eq_false (by omega)
  have h60z : decide ((60 : Int) < (n : Int) + 1) = false := decide_eq_false (by omega)
  have hkd : decide (t.kind = 3) = false := decide_eq_false hk
  have hkb : (t.kind == 3) = false := by rw [beq_eq_false_iff_ne]; exact hk
  obtain ⟨w1, hw1⟩ : ∃ w1, keyB w P n = w1 := ⟨_, rfl⟩
  rw [hw1] at hK1
  have y0 : ∀ j, j < w0.heap.size → w1.heap[j]? = w.heap[j]? := fun j hj => hK1.kept.block j (by omega) (by omega)
  have d0 := (World.cell?_of_block (w := w) (a := ⟨g, off, none⟩) (y0 g hg)).trans x0
  have K1 := Lib.hid hK1
  have HW := Lib.hid hw1
  have HG := Lib.hid hG
  have HT := Lib.hid ht
  have hgl : (greatL t.text).length ≤ 2000000 := by unfold greatL; rw [List.length_map]; exact ht
  have cW := word_st hK1.st
  unfold WordS at cW
  rw [show wordK (t :: l) = .ok (t.text, l) by rw [wordK, if_neg hk]] at cW
  have cGr := fun W => great_l t.text W ht
  have cSy := fun W hW => ofSystem_any (greatL t.text) W hgl hW
  have cNu := fun W => ofNumber_any (greatL t.text) W
  have cSy : ∀ W, FlagG W → Calls Tryz.prog 77 #[.string ⟨(greatL t.text).toArray⟩] W fun e w' => e = .returned (.tuple #[.string ⟨nm.toArray⟩, .bool false, .bool true]) ∧ Below W.heap.size W w' := fun W hW => by
    have := cSy W hW
    rw [hsys] at this
    exact this
  clear cNu hsys
  clear h hK1 hw1 x0 y0 hr hR hk hG ht hgl
  have HX : Hid (R = .ok (.mk 2 nm [] 0 [] [], l, n + 1)) := Lib.hid HR.out.symm
  go_enter Tryz.func46, Tryz.ntmps46
  go_upto_region 2 with fail
  rw [show (w.setCell ⟨P, 1, none⟩ (.int .i64 ((n : Int) + 1))).alloc (.cells #[.int .i64 0, .string ⟨#[]⟩, .string ⟨#[]⟩, .int .i64 0, .slice none 0 0, .slice none 0 0] 32) = w1 from HW.out]
  clear c0 c1 f1
  obtain ⟨c0, c1⟩ := two_cells K1.out.st.pars
  go_upto_region 15 with (first
    | (go_at_call 75; go_loud (((with_reducible refine cW.mono ?_); rintro e w2 h2; obtain ⟨v2, rfl, hs2, st2, k2⟩ := h2; have K2 := K1.out.next hP k2 st2)))
    | (go_at_call 76; go_loud (((with_reducible refine (cGr _).mono ?_); rintro e w3 ⟨rfl, y3⟩; have K3 := K2.under y3; have cSy1 := cSy w3 (K3.st.glob HG.out).flag)))
    | (go_at_call 77; go_loud (((with_reducible refine cSy1.mono ?_); rintro e w4 ⟨rfl, y4⟩; have K4 := K3.under y4))))
  have hb5 := (Below.refl w4.heap.size w4).alloc (Nat.le_refl _) (.cells #[.int .i64 2, .string ⟨nm.toArray⟩, .string ⟨#[]⟩, .int .i64 0, .slice none 0 0, .slice none 0 0] 32)
  have K5 := K4.under hb5
  obtain ⟨r0, r1, r2, r3, r4, r5⟩ := ksix_cells K5.res
  have fz := Lib.frozen_of_heap K5.res
  go_wp2_with fail
  refine bodyPost_ret (results_cell_row (P := Tryz.prog) rfl _ _ w.heap.size _ _ _ _ rfl (kset_six K5.res _ _ _ _ _ _) Tryz.underlying32 rfl key_size) rfl ?_
  exact K5.done hP (keyC_leaf _ _ _ _ _ _ (by decide) (by decide)) HX.out
set_option maxRecDepth 100000 in
set_option maxHeartbeats 16000000 in
theorem key_sys_true (d D : Nat) (hD : D ≤ 6) (w0 : World) (hG : SrG w0) (P n : Nat) (v : Value) (t : Wd) (l : List Wd) (w : World) (h : StK w0 P n v (t :: l) w) (hn : n + 1 ≤ 60) (hk : t.kind ≠ 3) (nm : List UInt8) (hsys : sysK (greatL t.text) = some (nm, true)) :
    Calls Tryz.prog 46 #[.pointer (some ⟨P, 0, none⟩), .int .i64 (D : Int)] w (KeyS w0 P (keyK (d + 1) (t :: l) n) w) := by
  have hr : keyK (d + 1) (t :: l) n = .ok (notK (.mk 2 nm [] 0 [] []), l, n + 1) := by
    rw [keyK_cons, if_neg (by omega), if_neg hk]
    unfold plainK
    rw [hsys]
    rfl
  obtain ⟨R, hR⟩ : ∃ R, keyK (d + 1) (t :: l) n = R := ⟨_, rfl⟩
  rw [hR]
  have HR := Lib.hid (hr.symm.trans hR)
  obtain ⟨a, c, rfl, -, -⟩ := h.words.val
  obtain ⟨g, off, va, vc, rfl, -, hc1, hc2, hg, x0, -, -, ht, -, -⟩ := h.words.cons
  have hP := h.pars.lt
  have hB := h.low
  have hgP : g ≠ P := by omega
  have hK1 := keyB_at h
  obtain ⟨c0, c1⟩ := two_cells h.pars
  have f1 := Lib.frozen_of_heap h.pars 1
  have h6z : decide ((6 : Int) < (D : Int)) = false := decide_eq_false (by omega)
  have h60z : decide ((60 : Int) < (n : Int) + 1) = false := decide_eq_false (by omega)
  have hkd : decide (t.kind = 3) = false := decide_eq_false hk
  have hkb : (t.kind == 3) = false := by rw [beq_eq_false_iff_ne]; exact hk
  obtain ⟨w1, hw1⟩ : ∃ w1, keyB w P n = w1 := ⟨_, rfl⟩
  rw [hw1] at hK1
  have y0 : ∀ j, j < w0.heap.size → w1.heap[j]? = w.heap[j]? := fun j hj => hK1.kept.block j (by omega) (by omega)
  have d0 := (World.cell?_of_block (w := w) (a := ⟨g, off, none⟩) (y0 g hg)).trans x0
  have K1 := Lib.hid hK1
  have HW := Lib.hid hw1
  have HG := Lib.hid hG
  have HT := Lib.hid ht
  have hgl : (greatL t.text).length ≤ 2000000 := by unfold greatL; rw [List.length_map]; exact ht
  have cW := word_st hK1.st
  unfold WordS at cW
  rw [show wordK (t :: l) = .ok (t.text, l) by rw [wordK, if_neg hk]] at cW
  have cGr := fun W => great_l t.text W ht
  have cSy := fun W hW => ofSystem_any (greatL t.text) W hgl hW
  have cNu := fun W => ofNumber_any (greatL t.text) W
  have cSy : ∀ W, FlagG W → Calls Tryz.prog 77 #[.string ⟨(greatL t.text).toArray⟩] W fun e w' => e = .returned (.tuple #[.string ⟨nm.toArray⟩, .bool true, .bool true]) ∧ Below W.heap.size W w' := fun W hW => by
    have := cSy W hW
    rw [hsys] at this
    exact this
  clear cNu hsys
  clear h hK1 hw1 x0 y0 hr hR hk hG ht hgl
  have HX : Hid (R = .ok (notK (.mk 2 nm [] 0 [] []), l, n + 1)) := Lib.hid HR.out.symm
  go_enter Tryz.func46, Tryz.ntmps46
  go_upto_region 2 with fail
  rw [show (w.setCell ⟨P, 1, none⟩ (.int .i64 ((n : Int) + 1))).alloc (.cells #[.int .i64 0, .string ⟨#[]⟩, .string ⟨#[]⟩, .int .i64 0, .slice none 0 0, .slice none 0 0] 32) = w1 from HW.out]
  clear c0 c1 f1
  obtain ⟨c0, c1⟩ := two_cells K1.out.st.pars
  go_upto_region 16 with (first
    | (go_at_call 75; go_loud (((with_reducible refine cW.mono ?_); rintro e w2 h2; obtain ⟨v2, rfl, hs2, st2, k2⟩ := h2; have K2 := K1.out.next hP k2 st2)))
    | (go_at_call 76; go_loud (((with_reducible refine (cGr _).mono ?_); rintro e w3 ⟨rfl, y3⟩; have K3 := K2.under y3; have cSy1 := cSy w3 (K3.st.glob HG.out).flag)))
    | (go_at_call 77; go_loud (((with_reducible refine cSy1.mono ?_); rintro e w4 ⟨rfl, y4⟩; have K4 := K3.under y4))))
  have hb5 := (Below.refl w4.heap.size w4).alloc (Nat.le_refl _) (.cells #[.int .i64 2, .string ⟨nm.toArray⟩, .string ⟨#[]⟩, .int .i64 0, .slice none 0 0, .slice none 0 0] 32)
  have hz5 := World.heap_alloc_new w4 (.cells #[.int .i64 2, .string ⟨nm.toArray⟩, .string ⟨#[]⟩, .int .i64 0, .slice none 0 0, .slice none 0 0] 32)
  have K5 := K4.under hb5
  generalize w4.alloc (.cells #[.int .i64 2, .string ⟨nm.toArray⟩, .string ⟨#[]⟩, .int .i64 0, .slice none 0 0, .slice none 0 0] 32) = w5 at hz5 K5 ⊢
  obtain ⟨z0, z1, z2, z3, z4, z5⟩ := ksix_cells hz5
  have cNo := notK_any (.int .i64 2) (.string ⟨nm.toArray⟩) (.string ⟨#[]⟩) (.int .i64 0) (.slice none 0 0) (.slice none 0 0) w5
  go_wp2_with (first
    | (go_at_call 78; go_loud (((with_reducible refine cNo.mono ?_); rintro e w6 ⟨rfl, y6, hz6⟩; have K6 := K5.under y6; obtain ⟨r0, r1, r2, r3, r4, r5⟩ := ksix_cells K6.res; have fz := Lib.frozen_of_heap K6.res))))
  have hs5 := K5.size
  refine bodyPost_ret (results_cell_row (P := Tryz.prog) rfl _ _ w.heap.size _ _ _ _ rfl (kset_six K6.res _ _ _ _ _ _) Tryz.underlying32 rfl key_size) rfl ?_
  exact K6.done hP (keyC_one hz6 (by omega) (keyC_leaf _ _ _ _ _ _ (by decide) (by decide))) HX.out
set_option maxRecDepth 100000 in
set_option maxHeartbeats 16000000 in
theorem key_num (d D : Nat) (hD : D ≤ 6) (w0 : World) (hG : SrG w0) (P n : Nat) (v : Value) (t : Wd) (l : List Wd) (w : World) (h : StK w0 P n v (t :: l) w) (hn : n + 1 ≤ 60) (hk : t.kind ≠ 3) (hsys : sysK (greatL t.text) = none) (hnum : 0 < numsK (greatL t.text)) (hnc : numsK (greatL t.text) ≠ 13) :
    Calls Tryz.prog 46 #[.pointer (some ⟨P, 0, none⟩), .int .i64 (D : Int)] w (KeyS w0 P (keyK (d + 1) (t :: l) n) w) := by
  have hr : keyK (d + 1) (t :: l) n = match numberK l with | .error e => .error e | .ok (v, l') => .ok (.mk (numsK (greatL t.text)) [] [] v [] [], l', n + 1) := by
    rw [keyK_cons, if_neg (by omega), if_neg hk]
    unfold plainK
    rw [hsys]
    simp only
    rw [if_pos hnum]
    cases numberK l <;> rfl
  obtain ⟨R, hR⟩ : ∃ R, keyK (d + 1) (t :: l) n = R := ⟨_, rfl⟩
  rw [hR]
  have HR := Lib.hid (hr.symm.trans hR)
  obtain ⟨a, c, rfl, -, -⟩ := h.words.val
  obtain ⟨g, off, va, vc, rfl, -, hc1, hc2, hg, x0, -, -, ht, -, -⟩ := h.words.cons
  have hP := h.pars.lt
  have hB := h.low
  have hgP : g ≠ P := by omega
  have hK1 := keyB_at h
  obtain ⟨c0, c1⟩ := two_cells h.pars
  have f1 := Lib.frozen_of_heap h.pars 1
  have h6z : decide ((6 : Int) < (D : Int)) = false := decide_eq_false (by omega)
  have h60z : decide ((60 : Int) < (n : Int) + 1) = false := decide_eq_false (by omega)
  have hkd : decide (t.kind = 3) = false := decide_eq_false hk
  have hkb : (t.kind == 3) = false := by rw [beq_eq_false_iff_ne]; exact hk
  obtain ⟨w1, hw1⟩ : ∃ w1, keyB w P n = w1 := ⟨_, rfl⟩
  rw [hw1] at hK1
  have y0 : ∀ j, j < w0.heap.size → w1.heap[j]? = w.heap[j]? := fun j hj => hK1.kept.block j (by omega) (by omega)
  have d0 := (World.cell?_of_block (w := w) (a := ⟨g, off, none⟩) (y0 g hg)).trans x0
  have K1 := Lib.hid hK1
  have HW := Lib.hid hw1
  have HG := Lib.hid hG
  have HT := Lib.hid ht
  have hgl : (greatL t.text).length ≤ 2000000 := by unfold greatL; rw [List.length_map]; exact ht
  have cW := word_st hK1.st
  unfold WordS at cW
  rw [show wordK (t :: l) = .ok (t.text, l) by rw [wordK, if_neg hk]] at cW
  have cGr := fun W => great_l t.text W ht
  have cSy := fun W hW => ofSystem_any (greatL t.text) W hgl hW
  have cNu := fun W => ofNumber_any (greatL t.text) W
  have cSy : ∀ W, FlagG W → Calls Tryz.prog 77 #[.string ⟨(greatL t.text).toArray⟩] W fun e w' => e = .returned (.tuple #[.string ⟨#[]⟩, .bool false, .bool false]) ∧ Below W.heap.size W w' := fun W hW => by
    have := cSy W hW
    rw [hsys] at this
    exact this
  clear hsys
  clear h hK1 hw1 x0 y0 hr hR hk hG ht hgl
  generalize numsK (greatL t.text) = N at hnum hnc cNu HR
  have hnd : decide (0 < N) = true := decide_eq_true hnum
  cases hq : numberK l with
  | error E =>
    have HX : Hid (R = .error E) := Lib.hid (by rw [← HR.out, hq])
    go_enter Tryz.func46, Tryz.ntmps46
    go_upto_region 2 with fail
    rw [show (w.setCell ⟨P, 1, none⟩ (.int .i64 ((n : Int) + 1))).alloc (.cells #[.int .i64 0, .string ⟨#[]⟩, .string ⟨#[]⟩, .int .i64 0, .slice none 0 0, .slice none 0 0] 32) = w1 from HW.out]
    clear c0 c1 f1
    obtain ⟨c0, c1⟩ := two_cells K1.out.st.pars
    go_wp2_with (first
      | (go_at_call 75; go_loud (((with_reducible refine cW.mono ?_); rintro e w2 h2; obtain ⟨v2, rfl, hs2, st2, k2⟩ := h2; have K2 := K1.out.next hP k2 st2)))
      | (go_at_call 76; go_loud (((with_reducible refine (cGr _).mono ?_); rintro e w3 ⟨rfl, y3⟩; have K3 := K2.under y3; have cSy1 := cSy w3 (K3.st.glob HG.out).flag)))
      | (go_at_call 77; go_loud (((with_reducible refine cSy1.mono ?_); rintro e w4 ⟨rfl, y4⟩; have K4 := K3.under y4)))
      | (go_at_call 79; go_loud (((with_reducible refine (cNu _).mono ?_); rintro e w5 ⟨rfl, hw5⟩; rw [hw5]; clear hw5; have cQ := number_st K4.st HG.out; unfold NumbS at cQ; rw [hq] at cQ)))
      | (go_at_call 80; go_loud (((with_reducible refine cQ.mono ?_); rintro e w9 h9; obtain ⟨rfl, k9⟩ := h9))))
    exact ⟨rfl, keyS_bad HX.out ⟨rfl, K4.kept.trans k9⟩⟩
  | ok x =>
    obtain ⟨x, l'⟩ := x
    have HX : Hid (R = .ok (.mk N [] [] x [] [], l', n + 1)) := Lib.hid (by rw [← HR.out, hq])
    go_enter Tryz.func46, Tryz.ntmps46
    go_upto_region 2 with fail
    rw [show (w.setCell ⟨P, 1, none⟩ (.int .i64 ((n : Int) + 1))).alloc (.cells #[.int .i64 0, .string ⟨#[]⟩, .string ⟨#[]⟩, .int .i64 0, .slice none 0 0, .slice none 0 0] 32) = w1 from HW.out]
    clear c0 c1 f1
    obtain ⟨c0, c1⟩ := two_cells K1.out.st.pars
    go_wp2_with (first
      | (go_at_call 75; go_loud (((with_reducible refine cW.mono ?_); rintro e w2 h2; obtain ⟨v2, rfl, hs2, st2, k2⟩ := h2; have K2 := K1.out.next hP k2 st2)))
      | (go_at_call 76; go_loud (((with_reducible refine (cGr _).mono ?_); rintro e w3 ⟨rfl, y3⟩; have K3 := K2.under y3; have cSy1 := cSy w3 (K3.st.glob HG.out).flag)))
      | (go_at_call 77; go_loud (((with_reducible refine cSy1.mono ?_); rintro e w4 ⟨rfl, y4⟩; have K4 := K3.under y4)))
      | (go_at_call 79; go_loud (((with_reducible refine (cNu _).mono ?_); rintro e w5 ⟨rfl, hw5⟩; rw [hw5]; clear hw5; have cQ := number_st K4.st HG.out; unfold NumbS at cQ; rw [hq] at cQ)))
      | (go_at_call 80; go_loud (((with_reducible refine cQ.mono ?_); rintro e w6 h6; obtain ⟨v6, rfl, st6, k6⟩ := h6; have K6 := K4.next hP k6 st6; obtain ⟨r0, r1, r2, r3, r4, r5⟩ := ksix_cells K6.res; have fz := Lib.frozen_of_heap K6.res))))
    refine bodyPost_ret (results_cell_row (P := Tryz.prog) rfl _ _ w.heap.size _ _ _ _ rfl (kset_six K6.res _ _ _ _ _ _) Tryz.underlying32 rfl key_size) rfl ?_
    exact K6.done hP (keyC_leaf _ _ _ _ _ _ (by decide) hnc) HX.out
set_option maxRecDepth 100000 in
set_option maxHeartbeats 16000000 in
theorem key_all (d D : Nat) (hD : D ≤ 6) (w0 : World) (hG : SrG w0) (P n : Nat) (v : Value) (t : Wd) (l : List Wd) (w : World) (h : StK w0 P n v (t :: l) w) (hn : n + 1 ≤ 60) (hk : t.kind ≠ 3) (hs : greatL t.text = [65, 76, 76]) :
    Calls Tryz.prog 46 #[.pointer (some ⟨P, 0, none⟩), .int .i64 (D : Int)] w (KeyS w0 P (keyK (d + 1) (t :: l) n) w) := by
  have hsys : sysK (greatL t.text) = none := by rw [hs]; decide
  have hr : keyK (d + 1) (t :: l) n = .ok (.mk 1 [] [] 0 [] [], l, n + 1) := by
    rw [keyK_cons, if_neg (by omega), if_neg hk]
    unfold plainK
    rw [hsys]
    simp only
    rw [hs, if_neg (by decide)]
    rfl
  obtain ⟨R, hR⟩ : ∃ R, keyK (d + 1) (t :: l) n = R := ⟨_, rfl⟩
  rw [hR]
  have HR := Lib.hid (hr.symm.trans hR)
  obtain ⟨a, c, rfl, -, -⟩ := h.words.val
  obtain ⟨g, off, va, vc, rfl, -, hc1, hc2, hg, x0, -, -, ht, -, -⟩ := h.words.cons
  have hP := h.pars.lt
  have hB := h.low
  have hgP : g ≠ P := by omega
  have hK1 := keyB_at h
  obtain ⟨c0, c1⟩ := two_cells h.pars
  have f1 := Lib.frozen_of_heap h.pars 1
  have h6z : decide ((6 : Int) < (D : Int)) = false := decide_eq_false (by omega)
  have h60z : decide ((60 : Int) < (n : Int) + 1) = false := decide_eq_false (by omega)
  have hkd : decide (t.kind = 3) = false := decide_eq_false hk
  have hkb : (t.kind == 3) = false := by rw [beq_eq_false_iff_ne]; exact hk
  obtain ⟨w1, hw1⟩ : ∃ w1, keyB w P n = w1 := ⟨_, rfl⟩
  rw [hw1] at hK1
  have y0 : ∀ j, j < w0.heap.size → w1.heap[j]? = w.heap[j]? := fun j hj => hK1.kept.block j (by omega) (by omega)
  have d0 := (World.cell?_of_block (w := w) (a := ⟨g, off, none⟩) (y0 g hg)).trans x0
  have K1 := Lib.hid hK1
  have HW := Lib.hid hw1
  have HG := Lib.hid hG
  have HT := Lib.hid ht
  have hgl : (greatL t.text).length ≤ 2000000 := by unfold greatL; rw [List.length_map]; exact ht
  have cW := word_st hK1.st
  unfold WordS at cW
  rw [show wordK (t :: l) = .ok (t.text, l) by rw [wordK, if_neg hk]] at cW
  have cGr := fun W => great_l t.text W ht
  have cSy := fun W hW => ofSystem_any (greatL t.text) W hgl hW
  have cNu := fun W => ofNumber_any (greatL t.text) W
  rw [hs] at cSy cNu cGr hsys
  have cSy : ∀ W, FlagG W → Calls Tryz.prog 77 #[.string ⟨([65, 76, 76]).toArray⟩] W fun e w' => e = .returned (.tuple #[.string ⟨#[]⟩, .bool false, .bool false]) ∧ Below W.heap.size W w' := fun W hW => by
    have := cSy W hW
    rw [hsys] at this
    exact this
  rw [show numsK [65, 76, 76] = 0 by decide] at cNu
  clear hsys hs
  clear h hK1 hw1 x0 y0 hr hR hk hG ht hgl
  have HX : Hid (R = .ok (.mk 1 [] [] 0 [] [], l, n + 1)) := Lib.hid HR.out.symm
  go_enter Tryz.func46, Tryz.ntmps46
  go_upto_region 2 with fail
  rw [show (w.setCell ⟨P, 1, none⟩ (.int .i64 ((n : Int) + 1))).alloc (.cells #[.int .i64 0, .string ⟨#[]⟩, .string ⟨#[]⟩, .int .i64 0, .slice none 0 0, .slice none 0 0] 32) = w1 from HW.out]
  clear c0 c1 f1
  obtain ⟨c0, c1⟩ := two_cells K1.out.st.pars
  go_wp2_with (first
    | (go_at_call 75; go_loud (((with_reducible refine cW.mono ?_); rintro e w2 h2; obtain ⟨v2, rfl, hs2, st2, k2⟩ := h2; have K2 := K1.out.next hP k2 st2)))
    | (go_at_call 76; go_loud (((with_reducible refine (cGr _).mono ?_); rintro e w3 ⟨rfl, y3⟩; have K3 := K2.under y3; have cSy1 := cSy w3 (K3.st.glob HG.out).flag)))
    | (go_at_call 77; go_loud (((with_reducible refine cSy1.mono ?_); rintro e w4 ⟨rfl, y4⟩; have K4 := K3.under y4; obtain ⟨r0, r1, r2, r3, r4, r5⟩ := ksix_cells K4.res; have fz := Lib.frozen_of_heap K4.res)))
    | (go_at_call 79; go_loud (((with_reducible refine (cNu _).mono ?_); rintro e w5 ⟨rfl, hw5⟩; rw [hw5]; clear hw5))))
  refine bodyPost_ret (results_cell_row (P := Tryz.prog) rfl _ _ w.heap.size _ _ _ _ rfl (kset_six K4.res _ _ _ _ _ _) Tryz.underlying32 rfl key_size) rfl ?_
  exact K4.done hP (keyC_leaf _ _ _ _ _ _ (by decide) (by decide)) HX.out
end Go.Proofs.YtcahhnjponeeeaaGreatDoor
namespace Go.Proofs.YtcahhnjponeeeaaGreatDoor
open Go.RowKit Go.Shelf Go.Sort
set_option linter.unusedSimpArgs false
set_option maxRecDepth 100000 in
set_option maxHeartbeats 16000000 in
theorem key_not (d D : Nat) (hD : D ≤ 6) (w0 : World) (hG : SrG w0) (IH : ∀ (P n : Nat) (v : Value) (l : List Wd) (w : World), n ≤ 60 → StK w0 P n v l w → Calls Tryz.prog 46 #[.pointer (some ⟨P, 0, none⟩), .int .i64 ((D : Int) + 1)] w (KeyS w0 P (keyK d l n) w)) (P n : Nat) (v : Value) (t : Wd) (l : List Wd) (w : World) (h : StK w0 P n v (t :: l) w) (hn : n + 1 ≤ 60) (hk : t.kind ≠ 3) (hs : greatL t.text = [78, 79, 84]) :
    Calls Tryz.prog 46 #[.pointer (some ⟨P, 0, none⟩), .int .i64 (D : Int)] w (KeyS w0 P (keyK (d + 1) (t :: l) n) w) := by
  have hsys : sysK (greatL t.text) = none := by rw [hs]; decide
  have hr : keyK (d + 1) (t :: l) n = match keyK d l (n + 1) with | .error e => .error e | .ok (k, l', n') => .ok (notK k, l', n') := by
    rw [keyK_cons, if_neg (by omega), if_neg hk]
    unfold plainK
    rw [hsys]
    simp only
    rw [hs, if_neg (by decide)]
    show ((match keyK d l (n + 1) with | .error e => .error e | .ok (k, l', n') => .ok (notK k, l', n')) : KeyE) = _
    cases keyK d l (n + 1) <;> rfl
  obtain ⟨R, hR⟩ : ∃ R, keyK (d + 1) (t :: l) n = R := ⟨_, rfl⟩
  rw [hR]
  have HR := Lib.hid (hr.symm.trans hR)
  obtain ⟨a, c, rfl, -, -⟩ := h.words.val
  obtain ⟨g, off, va, vc, rfl, -, hc1, hc2, hg, x0, -, -, ht, -, -⟩ := h.words.cons
  have hP := h.pars.lt
  have hB := h.low
  have hgP : g ≠ P := by omega
  have hK1 := keyB_at h
  obtain ⟨c0, c1⟩ := two_cells h.pars
  have f1 := Lib.frozen_of_heap h.pars 1
  have h6z : decide ((6 : Int) < (D : Int)) = false := decide_eq_false (by omega)
  have h60z : decide ((60 : Int) < (n : Int) + 1) = false := decide_eq_false (by omega)
  have hkd : decide (t.kind = 3) = false := decide_eq_false hk
  have hkb : (t.kind == 3) = false := by rw [beq_eq_false_iff_ne]; exact hk
  obtain ⟨w1, hw1⟩ : ∃ w1, keyB w P n = w1 := ⟨_, rfl⟩
  rw [hw1] at hK1
  have y0 : ∀ j, j < w0.heap.size → w1.heap[j]? = w.heap[j]? := fun j hj => hK1.kept.block j (by omega) (by omega)
  have d0 := (World.cell?_of_block (w := w) (a := ⟨g, off, none⟩) (y0 g hg)).trans x0
  have K1 := Lib.hid hK1
  have HW := Lib.hid hw1
  have HG := Lib.hid hG
  have HT := Lib.hid ht
  have hgl : (greatL t.text).length ≤ 2000000 := by unfold greatL; rw [List.length_map]; exact ht
  have cW := word_st hK1.st
  unfold WordS at cW
  rw [show wordK (t :: l) = .ok (t.text, l) by rw [wordK, if_neg hk]] at cW
  have cGr := fun W => great_l t.text W ht
  have cSy := fun W hW => ofSystem_any (greatL t.text) W hgl hW
  have cNu := fun W => ofNumber_any (greatL t.text) W
  rw [hs] at cSy cNu cGr hsys
  have cSy : ∀ W, FlagG W → Calls Tryz.prog 77 #[.string ⟨([78, 79, 84]).toArray⟩] W fun e w' => e = .returned (.tuple #[.string ⟨#[]⟩, .bool false, .bool false]) ∧ Below W.heap.size W w' := fun W hW => by
    have := cSy W hW
    rw [hsys] at this
    exact this
  rw [show numsK [78, 79, 84] = 0 by decide] at cNu
  clear hsys hs
  clear h hK1 hw1 x0 y0 hr hR hk hG ht hgl
  have HIH := Lib.hid IH
  clear IH
  cases hq : keyK d l (n + 1) with
  | error E =>
    have HX : Hid (R = .error E) := Lib.hid (by rw [← HR.out, hq])
    go_enter Tryz.func46, Tryz.ntmps46
    go_upto_region 2 with fail
    rw [show (w.setCell ⟨P, 1, none⟩ (.int .i64 ((n : Int) + 1))).alloc (.cells #[.int .i64 0, .string ⟨#[]⟩, .string ⟨#[]⟩, .int .i64 0, .slice none 0 0, .slice none 0 0] 32) = w1 from HW.out]
    clear c0 c1 f1
    obtain ⟨c0, c1⟩ := two_cells K1.out.st.pars
    go_wp2_with (first
      | (go_at_call 75; go_loud (((with_reducible refine cW.mono ?_); rintro e w2 h2; obtain ⟨v2, rfl, hs2, st2, k2⟩ := h2; have K2 := K1.out.next hP k2 st2)))
      | (go_at_call 76; go_loud (((with_reducible refine (cGr _).mono ?_); rintro e w3 ⟨rfl, y3⟩; have K3 := K2.under y3; have cSy1 := cSy w3 (K3.st.glob HG.out).flag)))
      | (go_at_call 77; go_loud (((with_reducible refine cSy1.mono ?_); rintro e w4 ⟨rfl, y4⟩; have K4 := K3.under y4)))
      | (go_at_call 79; go_loud (((with_reducible refine (cNu _).mono ?_); rintro e w5 ⟨rfl, hw5⟩; rw [hw5]; clear hw5; have cQ := HIH.out _ _ _ _ _ hn K4.st; unfold KeyS at cQ; rw [hq] at cQ)))
      | (go_at_call 46; go_loud (((with_reducible refine cQ.mono ?_); rintro e w9 h9; obtain ⟨rfl, k9⟩ := h9))))
    exact ⟨rfl, keyS_bad HX.out ⟨rfl, K4.kept.trans k9⟩⟩
  | ok x =>
    obtain ⟨k, l', n'⟩ := x
    have HX : Hid (R = .ok (notK k, l', n')) := Lib.hid (by rw [← HR.out, hq])
    go_enter Tryz.func46, Tryz.ntmps46
    go_upto_region 2 with fail
    rw [show (w.setCell ⟨P, 1, none⟩ (.int .i64 ((n : Int) + 1))).alloc (.cells #[.int .i64 0, .string ⟨#[]⟩, .string ⟨#[]⟩, .int .i64 0, .slice none 0 0, .slice none 0 0] 32) = w1 from HW.out]
    clear c0 c1 f1
    obtain ⟨c0, c1⟩ := two_cells K1.out.st.pars
    go_wp2_with (first
      | (go_at_call 75; go_loud (((with_reducible refine cW.mono ?_); rintro e w2 h2; obtain ⟨v2, rfl, hs2, st2, k2⟩ := h2; have K2 := K1.out.next hP k2 st2)))
      | (go_at_call 76; go_loud (((with_reducible refine (cGr _).mono ?_); rintro e w3 ⟨rfl, y3⟩; have K3 := K2.under y3; have cSy1 := cSy w3 (K3.st.glob HG.out).flag)))
      | (go_at_call 77; go_loud (((with_reducible refine cSy1.mono ?_); rintro e w4 ⟨rfl, y4⟩; have K4 := K3.under y4)))
      | (go_at_call 79; go_loud (((with_reducible refine (cNu _).mono ?_); rintro e w5 ⟨rfl, hw5⟩; rw [hw5]; clear hw5; have cQ := HIH.out _ _ _ _ _ hn K4.st; unfold KeyS at cQ; rw [hq] at cQ)))
      | (go_at_call 46; go_loud (((with_reducible refine cQ.mono ?_); rintro e w6 h6; obtain ⟨v6, cs, rfl, hc6, st6, k6⟩ := h6; obtain ⟨code, name, text, kn, set, keys, sa, kb, sc, kcc, rfl⟩ := hc6.six; have hs4 := K4.size; have K6 := K4.next hP k6 st6; have cNo := notK_any (.int .i64 code) (.string ⟨name.toArray⟩) (.string ⟨text.toArray⟩) (.int .i64 kn) (.slice sa set.length sc) (.slice kb keys.length kcc) w6)))
      | (go_at_call 78; go_loud (((with_reducible refine cNo.mono ?_); rintro e w8 ⟨rfl, y8, hz8⟩; have K8 := K6.under y8; have hs6 := K6.size; obtain ⟨r0, r1, r2, r3, r4, r5⟩ := ksix_cells K8.res; have fz := Lib.frozen_of_heap K8.res))))
    refine bodyPost_ret (results_cell_row (P := Tryz.prog) rfl _ _ w.heap.size _ _ _ _ rfl (kset_six K8.res _ _ _ _ _ _) Tryz.underlying32 rfl key_size) rfl ?_
    exact K8.done hP (keyC_one hz8 (by omega) (hc6.keep y8.size (fun j _ hj => y8.block j hj) (fun j hj _ => by have : w4.heap.size ≤ j := hj; omega))) HX.out
end Go.Proofs.YtcahhnjponeeeaaGreatDoor
namespace Go.Proofs.YtcahhnjponeeeaaGreatDoor
open Go.RowKit Go.Shelf Go.Sort
set_option linter.unusedSimpArgs false
set_option maxRecDepth 100000 in
set_option maxHeartbeats 16000000 in
theorem key_or (d D : Nat) (hD : D ≤ 6) (w0 : World) (hG : SrG w0) (IH : ∀ (P n : Nat) (v : Value) (l : List Wd) (w : World), n ≤ 60 → StK w0 P n v l w → Calls Tryz.prog 46 #[.pointer (some ⟨P, 0, none⟩), .int .i64 ((D : Int) + 1)] w (KeyS w0 P (keyK d l n) w)) (P n : Nat) (v : Value) (t : Wd) (l : List Wd) (w : World) (h : StK w0 P n v (t :: l) w) (hn : n + 1 ≤ 60) (hk : t.kind ≠ 3) (hs : greatL t.text = [79, 82]) :
    Calls Tryz.prog 46 #[.pointer (some ⟨P, 0, none⟩), .int .i64 (D : Int)] w (KeyS w0 P (keyK (d + 1) (t :: l) n) w) := by
  have hsys : sysK (greatL t.text) = none := by rw [hs]; decide
  have hr : keyK (d + 1) (t :: l) n = match keyK d l (n + 1) with | .error e => .error e | .ok (x, l1, n1) => (match keyK d l1 n1 with | .error e => .error e | .ok (y, l2, n2) => .ok (.mk 14 [] [] 0 [] [x, y], l2, n2)) := by
    rw [keyK_cons, if_neg (by omega), if_neg hk]
    unfold plainK
    rw [hsys]
    simp only
    rw [hs, if_neg (by decide)]
    show ((match keyK d l (n + 1) with | .error e => .error e | .ok (x, l1, n1) => (match keyK d l1 n1 with | .error e => .error e | .ok (y, l2, n2) => .ok (.mk 14 [] [] 0 [] [x, y], l2, n2))) : KeyE) = _
    cases keyK d l (n + 1) <;> rfl
  obtain ⟨R, hR⟩ : ∃ R, keyK (d + 1) (t :: l) n = R := ⟨_, rfl⟩
  rw [hR]
  have HR := Lib.hid (hr.symm.trans hR)
  obtain ⟨a, c, rfl, -, -⟩ := h.words.val
  obtain ⟨g, off, va, vc, rfl, -, hc1, hc2, hg, x0, -, -, ht, -, -⟩ := h.words.cons
  have hP := h.pars.lt
  have hB := h.low
  have hgP : g ≠ P := by omega
  have hK1 := keyB_at h
  obtain ⟨c0, c1⟩ := two_cells h.pars
  have f1 := Lib.frozen_of_heap h.pars 1
  have h6z : decide ((6 : Int) < (D : Int)) = false := decide_eq_false (by omega)
  have h60z : decide ((60 : Int) < (n : Int) + 1) = false := decide_eq_false (by omega)
  have hkd : decide (t.kind = 3) = false := decide_eq_false hk
  have hkb : (t.kind == 3) = false := by rw [beq_eq_false_iff_ne]; exact hk
  obtain ⟨w1, hw1⟩ : ∃ w1, keyB w P n = w1 := ⟨_, rfl⟩
  rw [hw1] at hK1
  have y0 : ∀ j, j < w0.heap.size → w1.heap[j]? = w.heap[j]? := fun j hj => hK1.kept.block j (by omega) (by omega)
  have d0 := (World.cell?_of_block (w := w) (a := ⟨g, off, none⟩) (y0 g hg)).trans x0
  have K1 := Lib.hid hK1
  have HW := Lib.hid hw1
  have HG := Lib.hid hG
  have HT := Lib.hid ht
  have hgl : (greatL t.text).length ≤ 2000000 := by unfold greatL; rw [List.length_map]; exact ht
  have cW := word_st hK1.st
  unfold WordS at cW
  rw [show wordK (t :: l) = .ok (t.text, l) by rw [wordK, if_neg hk]] at cW
  have cGr := fun W => great_l t.text W ht
  have cSy := fun W hW => ofSystem_any (greatL t.text) W hgl hW
  have cNu := fun W => ofNumber_any (greatL t.text) W
  rw [hs] at cSy cNu cGr hsys
  have cSy : ∀ W, FlagG W → Calls Tryz.prog 77 #[.string ⟨([79, 82]).toArray⟩] W fun e w' => e = .returned (.tuple #[.string ⟨#[]⟩, .bool false, .bool false]) ∧ Below W.heap.size W w' := fun W hW => by
    have := cSy W hW
    rw [hsys] at this
    exact this
  rw [show numsK [79, 82] = 0 by decide] at cNu
  clear hsys hs
  clear h hK1 hw1 x0 y0 hr hR hk hG ht hgl
  have HIH := Lib.hid IH
  have HS := Lib.hid (key_step d)
  clear IH
  cases hq : keyK d l (n + 1) with
  | error E =>
    have HX : Hid (R = .error E) := Lib.hid (by rw [← HR.out, hq])
    go_enter Tryz.func46, Tryz.ntmps46
    go_upto_region 2 with fail
    rw [show (w.setCell ⟨P, 1, none⟩ (.int .i64 ((n : Int) + 1))).alloc (.cells #[.int .i64 0, .string ⟨#[]⟩, .string ⟨#[]⟩, .int .i64 0, .slice none 0 0, .slice none 0 0] 32) = w1 from HW.out]
    clear c0 c1 f1
    obtain ⟨c0, c1⟩ := two_cells K1.out.st.pars
    go_wp2_with (first
      | (go_at_call 75; go_loud (((with_reducible refine cW.mono ?_); rintro e w2 h2; obtain ⟨v2, rfl, hs2, st2, k2⟩ := h2; have K2 := K1.out.next hP k2 st2)))
      | (go_at_call 76; go_loud (((with_reducible refine (cGr _).mono ?_); rintro e w3 ⟨rfl, y3⟩; have K3 := K2.under y3; have cSy1 := cSy w3 (K3.st.glob HG.out).flag)))
      | (go_at_call 77; go_loud (((with_reducible refine cSy1.mono ?_); rintro e w4 ⟨rfl, y4⟩; have K4 := K3.under y4)))
      | (go_at_call 79; go_loud (((with_reducible refine (cNu _).mono ?_); rintro e w5 ⟨rfl, hw5⟩; rw [hw5]; clear hw5; have cQ := HIH.out _ _ _ _ _ hn K4.st; unfold KeyS at cQ; rw [hq] at cQ)))
      | (go_at_call 46; go_loud (((with_reducible refine cQ.mono ?_); rintro e w9 h9; obtain ⟨rfl, k9⟩ := h9))))
    exact ⟨rfl, keyS_bad HX.out ⟨rfl, K4.kept.trans k9⟩⟩
  | ok x =>
    obtain ⟨x, l1, n1⟩ := x
    obtain ⟨-, hn0, hn1⟩ := HS.out _ _ _ _ _ hq
    rw [hq] at HR
    simp only at HR
    cases hq2 : keyK d l1 n1 with
    | error E =>
      have HX : Hid (R = .error E) := Lib.hid (by rw [← HR.out, hq2])
      clear HR
      go_enter Tryz.func46, Tryz.ntmps46
      go_upto_region 2 with fail
      rw [show (w.setCell ⟨P, 1, none⟩ (.int .i64 ((n : Int) + 1))).alloc (.cells #[.int .i64 0, .string ⟨#[]⟩, .string ⟨#[]⟩, .int .i64 0, .slice none 0 0, .slice none 0 0] 32) = w1 from HW.out]
      clear c0 c1 f1
      obtain ⟨c0, c1⟩ := two_cells K1.out.st.pars
      go_upto_region 47 with (first
        | (go_at_call 75; go_loud (((with_reducible refine cW.mono ?_); rintro e w2 h2; obtain ⟨v2, rfl, hs2, st2, k2⟩ := h2; have K2 := K1.out.next hP k2 st2)))
        | (go_at_call 76; go_loud (((with_reducible refine (cGr _).mono ?_); rintro e w3 ⟨rfl, y3⟩; have K3 := K2.under y3; have cSy1 := cSy w3 (K3.st.glob HG.out).flag)))
        | (go_at_call 77; go_loud (((with_reducible refine cSy1.mono ?_); rintro e w4 ⟨rfl, y4⟩; have K4 := K3.under y4)))
        | (go_at_call 79; go_loud (((with_reducible refine (cNu _).mono ?_); rintro e w5 ⟨rfl, hw5⟩; rw [hw5]; clear hw5; have cQ := HIH.out _ _ _ _ _ hn K4.st; unfold KeyS at cQ; rw [hq] at cQ)))
        | (go_at_call 46; go_loud (((with_reducible refine cQ.mono ?_); rintro e w6 h6; obtain ⟨v6, cs, rfl, hc6, st6, k6⟩ := h6; obtain ⟨code, name, text, kn, set, keys, sa, kb, sc, kcc, rfl⟩ := hc6.six; have hs4 := K4.size; have K6 := K4.next hP k6 st6))))
      have hb7 := ((Below.refl w6.heap.size w6).alloc (Nat.le_refl _) (.cells #[.int .i64 code, .string ⟨name.toArray⟩, .string ⟨text.toArray⟩, .int .i64 kn, .slice sa set.length sc, .slice kb keys.length kcc] 32))
      have hz7 := World.heap_alloc_new w6 (.cells #[.int .i64 code, .string ⟨name.toArray⟩, .string ⟨text.toArray⟩, .int .i64 kn, .slice sa set.length sc, .slice kb keys.length kcc] 32)
      have hs6 := K6.size
      have K7 := K6.under hb7
      have hc7 := hc6.keep (ok' := fun j => w4.heap.size ≤ j) hb7.size (fun j _ hj => hb7.block j hj) (fun j hj _ => hj)
      generalize w6.alloc (.cells #[.int .i64 code, .string ⟨name.toArray⟩, .string ⟨text.toArray⟩, .int .i64 kn, .slice sa set.length sc, .slice kb keys.length kcc] 32) = w7 at hz7 K7 hc7 ⊢
      obtain ⟨X, hX⟩ : ∃ X, w6.heap.size = X := ⟨_, rfl⟩
      rw [hX] at hz7 ⊢
      have hXP : X ≠ P := by omega
      have hRX : w.heap.size ≠ X := by omega
      have hRP : w.heap.size ≠ P := by omega
      have hRX2 : w.heap.size < X := by omega
      clear hb7 K6 hc6 hX c0 c1 K1 HW cW
      have K8 := K7.under ((Below.refl w7.heap.size w7).drew)
      have hz8 : w7.drew.heap[X]? = some (.cells #[.int .i64 code, .string ⟨name.toArray⟩, .string ⟨text.toArray⟩, .int .i64 kn, .slice sa set.length sc, .slice kb keys.length kcc] 32 (0, 0)) := hz7
      have hc8 : KeyC w7.drew (fun j => w4.heap.size ≤ j) [.int .i64 code, .string ⟨name.toArray⟩, .string ⟨text.toArray⟩, .int .i64 kn, .slice sa set.length sc, .slice kb keys.length kcc] x := hc7.keep (Nat.le_refl _) (fun _ _ _ => rfl) (fun _ h _ => h)
      obtain ⟨z0, z1, z2, z3, z4, z5⟩ := ksix_cells hz8
      have cQ2 := HIH.out _ _ _ _ _ hn1 K8.st
      unfold KeyS at cQ2
      rw [hq2] at cQ2
      have hDw : IntKind.i64.wrap ((D : Int) + 1) = (D : Int) + 1 := IntWalk.i64_in _ (by omega)
      have hS0 : (fun _ : World => True) w7.drew := trivial
      have hS1 : (fun W : World => W.cell? ⟨X, 0, none⟩ = some (.int .i64 code) ∧ W.cell? ⟨X, 1, none⟩ = some (.string ⟨name.toArray⟩) ∧ W.cell? ⟨X, 2, none⟩ = some (.string ⟨text.toArray⟩) ∧ W.cell? ⟨X, 3, none⟩ = some (.int .i64 kn) ∧ W.cell? ⟨X, 4, none⟩ = some (.slice sa set.length sc) ∧ W.cell? ⟨X, 5, none⟩ = some (.slice kb keys.length kcc)) w7.drew := ⟨z0, z1, z2, z3, z4, z5⟩
      clear z0 z1 z2 z3 z4 z5
      refine until_start (S := fun W => W.cell? ⟨X, 0, none⟩ = some (.int .i64 code) ∧ W.cell? ⟨X, 1, none⟩ = some (.string ⟨name.toArray⟩) ∧ W.cell? ⟨X, 2, none⟩ = some (.string ⟨text.toArray⟩) ∧ W.cell? ⟨X, 3, none⟩ = some (.int .i64 kn) ∧ W.cell? ⟨X, 4, none⟩ = some (.slice sa set.length sc) ∧ W.cell? ⟨X, 5, none⟩ = some (.slice kb keys.length kcc)) (S0 := fun _ => True) (t := 5) (by kernel_rfl) ?_
      generalize w7.drew = wd at *
      refine until_take (i := 0) (v := ?v0e) rfl (by kernel_rfl) (by kernel_rfl) (by kernel_rfl) (by kernel_rfl) (fun _ _ _ h => h) (Or.inl ⟨by rfl, ?y0e⟩) hS0 hS1 ?r0e
      case y0e => (intro W hSw; (try dsimp only at hSw); go_simp; try with_reducible rfl)
      try simp only [Act.put, List.setIfInBounds_toArray, List.set_cons_zero, List.set_cons_succ]
      refine until_take0 (i := 1) (v := ?v1e) rfl (by kernel_rfl) (by kernel_rfl) (by kernel_rfl) (by rfl) (fun _ _ _ h => h) (Or.inl ⟨by rfl, ?y1e⟩) hS0 (fun _ => hS1) ?r1e
      case y1e => (intro W hSw; (try dsimp only at hSw); go_simp; try with_reducible rfl)
      try simp only [Act.put, List.setIfInBounds_toArray, List.set_cons_zero, List.set_cons_succ]
      refine until_take0 (i := 2) (v := ?v2e) rfl (by kernel_rfl) (by kernel_rfl) (by kernel_rfl) (by rfl) (fun _ _ _ h => h) (Or.inl ⟨by rfl, ?y2e⟩) hS0 (fun _ => hS1) ?r2e
      case y2e => (intro W hSw; (try dsimp only at hSw); go_simp; try with_reducible rfl)
      try simp only [Act.put, List.setIfInBounds_toArray, List.set_cons_zero, List.set_cons_succ]
      refine until_take0 (i := 3) (v := ?v3e) rfl (by kernel_rfl) (by kernel_rfl) (by kernel_rfl) (by rfl) (fun _ _ _ h => h) (Or.inl ⟨by rfl, ?y3e⟩) hS0 (fun _ => hS1) ?r3e
      case y3e => (intro W hSw; (try dsimp only at hSw); go_simp; try with_reducible rfl)
      try simp only [Act.put, List.setIfInBounds_toArray, List.set_cons_zero, List.set_cons_succ]
      refine until_step (i := 4) (by kernel_rfl) rfl (fun K hK => ?_)
      go_simp
      (with_reducible refine cQ2.mono ?_)
      rintro e w9 h9
      obtain ⟨rfl, k9⟩ : FailsK P E wd e w9 := h9
      go_wp2_with fail
      exact ⟨rfl, keyS_bad HX.out ⟨rfl, K8.kept.trans k9⟩⟩
    | ok y =>
      obtain ⟨y, l2, n2⟩ := y
      have HX : Hid (R = .ok (.mk 14 [] [] 0 [] [x, y], l2, n2)) := Lib.hid (by rw [← HR.out, hq2])
      clear HR
      go_enter Tryz.func46, Tryz.ntmps46
      go_upto_region 2 with fail
      rw [show (w.setCell ⟨P, 1, none⟩ (.int .i64 ((n : Int) + 1))).alloc (.cells #[.int .i64 0, .string ⟨#[]⟩, .string ⟨#[]⟩, .int .i64 0, .slice none 0 0, .slice none 0 0] 32) = w1 from HW.out]
      clear c0 c1 f1
      obtain ⟨c0, c1⟩ := two_cells K1.out.st.pars
      go_upto_region 47 with (first
        | (go_at_call 75; go_loud (((with_reducible refine cW.mono ?_); rintro e w2 h2; obtain ⟨v2, rfl, hs2, st2, k2⟩ := h2; have K2 := K1.out.next hP k2 st2)))
        | (go_at_call 76; go_loud (((with_reducible refine (cGr _).mono ?_); rintro e w3 ⟨rfl, y3⟩; have K3 := K2.under y3; have cSy1 := cSy w3 (K3.st.glob HG.out).flag)))
        | (go_at_call 77; go_loud (((with_reducible refine cSy1.mono ?_); rintro e w4 ⟨rfl, y4⟩; have K4 := K3.under y4)))
        | (go_at_call 79; go_loud (((with_reducible refine (cNu _).mono ?_); rintro e w5 ⟨rfl, hw5⟩; rw [hw5]; clear hw5; have cQ := HIH.out _ _ _ _ _ hn K4.st; unfold KeyS at cQ; rw [hq] at cQ)))
        | (go_at_call 46; go_loud (((with_reducible refine cQ.mono ?_); rintro e w6 h6; obtain ⟨v6, cs, rfl, hc6, st6, k6⟩ := h6; obtain ⟨code, name, text, kn, set, keys, sa, kb, sc, kcc, rfl⟩ := hc6.six; have hs4 := K4.size; have K6 := K4.next hP k6 st6))))
      have hb7 := ((Below.refl w6.heap.size w6).alloc (Nat.le_refl _) (.cells #[.int .i64 code, .string ⟨name.toArray⟩, .string ⟨text.toArray⟩, .int .i64 kn, .slice sa set.length sc, .slice kb keys.length kcc] 32))
      have hz7 := World.heap_alloc_new w6 (.cells #[.int .i64 code, .string ⟨name.toArray⟩, .string ⟨text.toArray⟩, .int .i64 kn, .slice sa set.length sc, .slice kb keys.length kcc] 32)
      have hs6 := K6.size
      have K7 := K6.under hb7
      have hc7 := hc6.keep (ok' := fun j => w4.heap.size ≤ j) hb7.size (fun j _ hj => hb7.block j hj) (fun j hj _ => hj)
      generalize w6.alloc (.cells #[.int .i64 code, .string ⟨name.toArray⟩, .string ⟨text.toArray⟩, .int .i64 kn, .slice sa set.length sc, .slice kb keys.length kcc] 32) = w7 at hz7 K7 hc7 ⊢
      obtain ⟨X, hX⟩ : ∃ X, w6.heap.size = X := ⟨_, rfl⟩
      rw [hX] at hz7 ⊢
      have hXP : X ≠ P := by omega
      have hRX : w.heap.size ≠ X := by omega
      have hRP : w.heap.size ≠ P := by omega
      have hRX2 : w.heap.size < X := by omega
      clear hb7 K6 hc6 hX c0 c1 K1 HW cW
      have K8 := K7.under ((Below.refl w7.heap.size w7).drew)
      have hz8 : w7.drew.heap[X]? = some (.cells #[.int .i64 code, .string ⟨name.toArray⟩, .string ⟨text.toArray⟩, .int .i64 kn, .slice sa set.length sc, .slice kb keys.length kcc] 32 (0, 0)) := hz7
      have hc8 : KeyC w7.drew (fun j => w4.heap.size ≤ j) [.int .i64 code, .string ⟨name.toArray⟩, .string ⟨text.toArray⟩, .int .i64 kn, .slice sa set.length sc, .slice kb keys.length kcc] x := hc7.keep (Nat.le_refl _) (fun _ _ _ => rfl) (fun _ h _ => h)
      obtain ⟨z0, z1, z2, z3, z4, z5⟩ := ksix_cells hz8
      have cQ2 := HIH.out _ _ _ _ _ hn1 K8.st
      unfold KeyS at cQ2
      rw [hq2] at cQ2
      have hDw : IntKind.i64.wrap ((D : Int) + 1) = (D : Int) + 1 := IntWalk.i64_in _ (by omega)
      have hS0 : (fun _ : World => True) w7.drew := trivial
      have hS1 : (fun W : World => W.cell? ⟨X, 0, none⟩ = some (.int .i64 code) ∧ W.cell? ⟨X, 1, none⟩ = some (.string ⟨name.toArray⟩) ∧ W.cell? ⟨X, 2, none⟩ = some (.string ⟨text.toArray⟩) ∧ W.cell? ⟨X, 3, none⟩ = some (.int .i64 kn) ∧ W.cell? ⟨X, 4, none⟩ = some (.slice sa set.length sc) ∧ W.cell? ⟨X, 5, none⟩ = some (.slice kb keys.length kcc)) w7.drew := ⟨z0, z1, z2, z3, z4, z5⟩
      clear z0 z1 z2 z3 z4 z5
      refine until_start (S := fun W => W.cell? ⟨X, 0, none⟩ = some (.int .i64 code) ∧ W.cell? ⟨X, 1, none⟩ = some (.string ⟨name.toArray⟩) ∧ W.cell? ⟨X, 2, none⟩ = some (.string ⟨text.toArray⟩) ∧ W.cell? ⟨X, 3, none⟩ = some (.int .i64 kn) ∧ W.cell? ⟨X, 4, none⟩ = some (.slice sa set.length sc) ∧ W.cell? ⟨X, 5, none⟩ = some (.slice kb keys.length kcc)) (S0 := fun _ => True) (t := 5) (by kernel_rfl) ?_
      generalize w7.drew = wd at *
      refine until_take (i := 0) (v := ?v0) rfl (by kernel_rfl) (by kernel_rfl) (by kernel_rfl) (by kernel_rfl) (fun _ _ _ h => h) (Or.inl ⟨by rfl, ?y0⟩) hS0 hS1 ?r0
      case y0 => (intro W hSw; (try dsimp only at hSw); go_simp; try with_reducible rfl)
      try simp only [Act.put, List.setIfInBounds_toArray, List.set_cons_zero, List.set_cons_succ]
      refine until_take0 (i := 1) (v := ?v1) rfl (by kernel_rfl) (by kernel_rfl) (by kernel_rfl) (by rfl) (fun _ _ _ h => h) (Or.inl ⟨by rfl, ?y1⟩) hS0 (fun _ => hS1) ?r1
      case y1 => (intro W hSw; (try dsimp only at hSw); go_simp; try with_reducible rfl)
      try simp only [Act.put, List.setIfInBounds_toArray, List.set_cons_zero, List.set_cons_succ]
      refine until_take0 (i := 2) (v := ?v2) rfl (by kernel_rfl) (by kernel_rfl) (by kernel_rfl) (by rfl) (fun _ _ _ h => h) (Or.inl ⟨by rfl, ?y2⟩) hS0 (fun _ => hS1) ?r2
      case y2 => (intro W hSw; (try dsimp only at hSw); go_simp; try with_reducible rfl)
      try simp only [Act.put, List.setIfInBounds_toArray, List.set_cons_zero, List.set_cons_succ]
      refine until_take0 (i := 3) (v := ?v3) rfl (by kernel_rfl) (by kernel_rfl) (by kernel_rfl) (by rfl) (fun _ _ _ h => h) (Or.inl ⟨by rfl, ?y3⟩) hS0 (fun _ => hS1) ?r3
      case y3 => (intro W hSw; (try dsimp only at hSw); go_simp; try with_reducible rfl)
      try simp only [Act.put, List.setIfInBounds_toArray, List.set_cons_zero, List.set_cons_succ]
      refine until_step (i := 4) (by kernel_rfl) rfl (fun K hK => ?_)
      go_simp
      (with_reducible refine cQ2.mono ?_)
      rintro e w9 h9
      obtain ⟨v9, cs, rfl, hc9, st9, k9⟩ : ∃ v cs, e = .returned (.agg cs.toArray) ∧ KeyC w9 (fun j => wd.heap.size ≤ j) cs y ∧ StK w0 P n2 v l2 w9 ∧ Kept (fun k => k = P) wd w9 := h9
      obtain ⟨code2, name2, text2, kn2, set2, keys2, sa2, kb2, sc2, kcc2, rfl⟩ := hc9.six
      have hs8 := K8.size
      have K9 := K8.next hP k9 st9
      have hz9 := k9.obj hz8 hXP
      have hc8' := hc8.keep (W' := w9) (ok' := fun j => w.heap.size < j) k9.size (fun j hj hl => k9.block j hl (fun e => by have h2 : w4.heap.size ≤ j := hj; have h3 : j = P := e; omega)) (fun j hj _ => by have h2 : w4.heap.size ≤ j := hj; omega)
      have hc9' := hc9.keep (W' := w9) (ok' := fun j => w.heap.size < j) (Nat.le_refl _) (fun j _ _ => rfl) (fun j hj _ => by have h2 : wd.heap.size ≤ j := hj; omega)
      have HZ9 := Lib.hid hz9
      clear hS0 hS1 hz9 hc8 hc9 hz8 cQ2
      go_wp2_with fail
      refine hK.out _ _ trivial (fun _ _ => ksix_cells HZ9.out) ?_
      clear hK K
      try simp only [Act.put, List.setIfInBounds_toArray, List.set_cons_zero, List.set_cons_succ]
      refine until_step (i := 5) (by kernel_rfl) rfl (fun K hK => ?_)
      go_simp
      refine hK.out _ _ trivial (fun h _ => absurd rfl h) ?_
      clear hK K
      try simp only [Act.put, List.setIfInBounds_toArray, List.set_cons_zero, List.set_cons_succ]
      refine until_step (i := 6) (by kernel_rfl) rfl (fun K hK => ?_)
      go_simp
      refine hK.out _ _ trivial (fun _ h => absurd h (by decide)) ?_
      clear hK K
      try simp only [Act.put, List.setIfInBounds_toArray, List.set_cons_zero, List.set_cons_succ]
      have hb10 := (Below.refl w9.heap.size w9).alloc (Nat.le_refl _) (.cells #[.int .i64 code, .string ⟨name.toArray⟩, .string ⟨text.toArray⟩, .int .i64 kn, .slice sa set.length sc, .slice kb keys.length kcc, .int .i64 code2, .string ⟨name2.toArray⟩, .string ⟨text2.toArray⟩, .int .i64 kn2, .slice sa2 set2.length sc2, .slice kb2 keys2.length kcc2] 32)
      have hz10 := World.heap_alloc_new w9 (.cells #[.int .i64 code, .string ⟨name.toArray⟩, .string ⟨text.toArray⟩, .int .i64 kn, .slice sa set.length sc, .slice kb keys.length kcc, .int .i64 code2, .string ⟨name2.toArray⟩, .string ⟨text2.toArray⟩, .int .i64 kn2, .slice sa2 set2.length sc2, .slice kb2 keys2.length kcc2] 32)
      have hs9 := K9.size
      have K10 := K9.under hb10
      have hcA := hc8'.keep (ok' := fun j => w.heap.size < j) hb10.size (fun j _ hl => hb10.block j hl) (fun j hj _ => hj)
      have hcB := hc9'.keep (ok' := fun j => w.heap.size < j) hb10.size (fun j _ hl => hb10.block j hl) (fun j hj _ => hj)
      generalize w9.alloc (.cells #[.int .i64 code, .string ⟨name.toArray⟩, .string ⟨text.toArray⟩, .int .i64 kn, .slice sa set.length sc, .slice kb keys.length kcc, .int .i64 code2, .string ⟨name2.toArray⟩, .string ⟨text2.toArray⟩, .int .i64 kn2, .slice sa2 set2.length sc2, .slice kb2 keys2.length kcc2] 32) = wA at hz10 K10 hcA hcB ⊢
      obtain ⟨r0, r1, r2, r3, r4, r5⟩ := ksix_cells K10.res
      have fz := Lib.frozen_of_heap K10.res
      refine until_step (i := 7) (by kernel_rfl) rfl (fun K hK => ?_)
      go_simp
      refine hK.out _ _ trivial (fun _ h => absurd h (by decide)) ?_
      clear hK K
      try simp only [Act.put, List.setIfInBounds_toArray, List.set_cons_zero, List.set_cons_succ]
      refine until_done (by kernel_rfl) ?_ _
      go_wp2_with fail
      refine bodyPost_ret (results_cell_row (P := Tryz.prog) rfl _ _ w.heap.size _ _ _ _ rfl (kset_six K10.res _ _ _ _ _ _) Tryz.underlying32 rfl key_size) rfl ?_
      exact K10.done hP (keyC_two hz10 hs9 (by decide) hcA hcB) HX.out
end Go.Proofs.YtcahhnjponeeeaaGreatDoor
namespace Go.Proofs.YtcahhnjponeeeaaGreatDoor
open Go.RowKit Go.Shelf Go.Sort
set_option linter.unusedSimpArgs false
set_option maxRecDepth 100000 in
set_option maxHeartbeats 16000000 in
theorem key_from (d D : Nat) (hD : D ≤ 6) (w0 : World) (hG : SrG w0) (P n : Nat) (v : Value) (t : Wd) (l : List Wd) (w : World) (h : StK w0 P n v (t :: l) w) (hn : n + 1 ≤ 60) (hk : t.kind ≠ 3) (hs : greatL t.text = [70, 82, 79, 77]) :
    Calls Tryz.prog 46 #[.pointer (some ⟨P, 0, none⟩), .int .i64 (D : Int)] w (KeyS w0 P (keyK (d + 1) (t :: l) n) w) := by
  have hsys : sysK (greatL t.text) = none := by rw [hs]; decide
  have hr : keyK (d + 1) (t :: l) n = headK (smallL [70, 82, 79, 77]) l (n + 1) := by
    rw [keyK_cons, if_neg (by omega), if_neg hk]
    unfold plainK
    rw [hsys]
    simp only
    rw [hs, if_neg (by decide)]
    rfl
  obtain ⟨R, hR⟩ : ∃ R, keyK (d + 1) (t :: l) n = R := ⟨_, rfl⟩
  rw [hR]
  have HR := Lib.hid (hr.symm.trans hR)
  obtain ⟨a, c, rfl, -, -⟩ := h.words.val
  obtain ⟨g, off, va, vc, rfl, -, hc1, hc2, hg, x0, -, -, ht, -, -⟩ := h.words.cons
  have hP := h.pars.lt
  have hB := h.low
  have hgP : g ≠ P := by omega
  have hK1 := keyB_at h
  obtain ⟨c0, c1⟩ := two_cells h.pars
  have f1 := Lib.frozen_of_heap h.pars 1
  have h6z : decide ((6 : Int) < (D : Int)) = false := decide_eq_false (by omega)
  have h60z : decide ((60 : Int) < (n : Int) + 1) = false := decide_eq_false (by omega)
  have hkd : decide (t.kind = 3) = false := decide_eq_false hk
  have hkb : (t.kind == 3) = false := by rw [beq_eq_false_iff_ne]; exact hk
  obtain ⟨w1, hw1⟩ : ∃ w1, keyB w P n = w1 := ⟨_, rfl⟩
  rw [hw1] at hK1
  have y0 : ∀ j, j < w0.heap.size → w1.heap[j]? = w.heap[j]? := fun j hj => hK1.kept.block j (by omega) (by omega)
  have d0 := (World.cell?_of_block (w := w) (a := ⟨g, off, none⟩) (y0 g hg)).trans x0
  have K1 := Lib.hid hK1
  have HW := Lib.hid hw1
  have HG := Lib.hid hG
  have HT := Lib.hid ht
  have hgl : (greatL t.text).length ≤ 2000000 := by unfold greatL; rw [List.length_map]; exact ht
  have cW := word_st hK1.st
  unfold WordS at cW
  rw [show wordK (t :: l) = .ok (t.text, l) by rw [wordK, if_neg hk]] at cW
  have cGr := fun W => great_l t.text W ht
  have cSy := fun W hW => ofSystem_any (greatL t.text) W hgl hW
  have cNu := fun W => ofNumber_any (greatL t.text) W
  rw [hs] at cSy cNu cGr hsys
  have cSy : ∀ W, FlagG W → Calls Tryz.prog 77 #[.string ⟨([70, 82, 79, 77]).toArray⟩] W fun e w' => e = .returned (.tuple #[.string ⟨#[]⟩, .bool false, .bool false]) ∧ Below W.heap.size W w' := fun W hW => by
    have := cSy W hW
    rw [hsys] at this
    exact this
  rw [show numsK [70, 82, 79, 77] = 0 by decide] at cNu
  clear hsys hs
  clear h hK1 hw1 x0 y0 hr hR hk hG ht hgl
  unfold headK at HR
  have cSm := fun W => small_l [70, 82, 79, 77] W (by decide)
  cases hq : wordK l with
  | error E =>
    have HX : Hid (R = .error E) := Lib.hid (by rw [← HR.out, hq])
    go_enter Tryz.func46, Tryz.ntmps46
    go_upto_region 2 with fail
    rw [show (w.setCell ⟨P, 1, none⟩ (.int .i64 ((n : Int) + 1))).alloc (.cells #[.int .i64 0, .string ⟨#[]⟩, .string ⟨#[]⟩, .int .i64 0, .slice none 0 0, .slice none 0 0] 32) = w1 from HW.out]
    clear c0 c1 f1
    obtain ⟨c0, c1⟩ := two_cells K1.out.st.pars
    go_wp2_with (first
      | (go_at_call 75; go_loud (((with_reducible refine cW.mono ?_); rintro e w2 h2; obtain ⟨v2, rfl, hs2, st2, k2⟩ := h2; have K2 := K1.out.next hP k2 st2)))
      | (go_at_call 76; go_loud (((with_reducible refine (cGr _).mono ?_); rintro e w3 ⟨rfl, y3⟩; have K3 := K2.under y3; have cSy1 := cSy w3 (K3.st.glob HG.out).flag)))
      | (go_at_call 77; go_loud (((with_reducible refine cSy1.mono ?_); rintro e w4 ⟨rfl, y4⟩; have K4 := K3.under y4)))
      | (go_at_call 79; go_loud (((with_reducible refine (cNu _).mono ?_); rintro e w5 ⟨rfl, hw5⟩; rw [hw5]; clear hw5)))
      | (go_at_call 24; go_loud (((with_reducible refine (cSm _).mono ?_); rintro e w6 ⟨rfl, y6⟩; have K6 := K4.under y6; have cQ := word_st K6.st; unfold WordS at cQ; rw [hq] at cQ)))
      | (go_at_call 75; go_loud (((with_reducible refine cQ.mono ?_); rintro e w9 h9; obtain ⟨rfl, k9⟩ := h9))))
    exact ⟨rfl, keyS_bad HX.out ⟨rfl, K6.kept.trans k9⟩⟩
  | ok x =>
    obtain ⟨x, l'⟩ := x
    have HX : Hid (R = .ok (.mk 3 (smallL [70, 82, 79, 77]) x 0 [] [], l', n + 1)) := Lib.hid (by rw [← HR.out, hq])
    go_enter Tryz.func46, Tryz.ntmps46
    go_upto_region 2 with fail
    rw [show (w.setCell ⟨P, 1, none⟩ (.int .i64 ((n : Int) + 1))).alloc (.cells #[.int .i64 0, .string ⟨#[]⟩, .string ⟨#[]⟩, .int .i64 0, .slice none 0 0, .slice none 0 0] 32) = w1 from HW.out]
    clear c0 c1 f1
    obtain ⟨c0, c1⟩ := two_cells K1.out.st.pars
    go_wp2_with (first
      | (go_at_call 75; go_loud (((with_reducible refine cW.mono ?_); rintro e w2 h2; obtain ⟨v2, rfl, hs2, st2, k2⟩ := h2; have K2 := K1.out.next hP k2 st2)))
      | (go_at_call 76; go_loud (((with_reducible refine (cGr _).mono ?_); rintro e w3 ⟨rfl, y3⟩; have K3 := K2.under y3; have cSy1 := cSy w3 (K3.st.glob HG.out).flag)))
      | (go_at_call 77; go_loud (((with_reducible refine cSy1.mono ?_); rintro e w4 ⟨rfl, y4⟩; have K4 := K3.under y4)))
      | (go_at_call 79; go_loud (((with_reducible refine (cNu _).mono ?_); rintro e w5 ⟨rfl, hw5⟩; rw [hw5]; clear hw5)))
      | (go_at_call 24; go_loud (((with_reducible refine (cSm _).mono ?_); rintro e w6 ⟨rfl, y6⟩; have K6 := K4.under y6; have cQ := word_st K6.st; unfold WordS at cQ; rw [hq] at cQ)))
      | (go_at_call 75; go_loud (((with_reducible refine cQ.mono ?_); rintro e w7 h7; obtain ⟨v7, rfl, hs7, st7, k7⟩ := h7; have K7 := K6.next hP k7 st7; obtain ⟨r0, r1, r2, r3, r4, r5⟩ := ksix_cells K7.res; have fz := Lib.frozen_of_heap K7.res))))
    refine bodyPost_ret (results_cell_row (P := Tryz.prog) rfl _ _ w.heap.size _ _ _ _ rfl (kset_six K7.res _ _ _ _ _ _) Tryz.underlying32 rfl key_size) rfl ?_
    exact K7.done hP (keyC_leaf _ _ _ _ _ _ hs7 (by decide)) HX.out
set_option maxRecDepth 100000 in
set_option maxHeartbeats 16000000 in
theorem key_to (d D : Nat) (hD : D ≤ 6) (w0 : World) (hG : SrG w0) (P n : Nat) (v : Value) (t : Wd) (l : List Wd) (w : World) (h : StK w0 P n v (t :: l) w) (hn : n + 1 ≤ 60) (hk : t.kind ≠ 3) (hs : greatL t.text = [84, 79]) :
    Calls Tryz.prog 46 #[.pointer (some ⟨P, 0, none⟩), .int .i64 (D : Int)] w (KeyS w0 P (keyK (d + 1) (t :: l) n) w) := by
  have hsys : sysK (greatL t.text) = none := by rw [hs]; decide
  have hr : keyK (d + 1) (t :: l) n = headK (smallL [84, 79]) l (n + 1) := by
    rw [keyK_cons, if_neg (by omega), if_neg hk]
    unfold plainK
    rw [hsys]
    simp only
    rw [hs, if_neg (by decide)]
    rfl
  obtain ⟨R, hR⟩ : ∃ R, keyK (d + 1) (t :: l) n = R := ⟨_, rfl⟩
  rw [hR]
  have HR := Lib.hid (hr.symm.trans hR)
  obtain ⟨a, c, rfl, -, -⟩ := h.words.val
  obtain ⟨g, off, va, vc, rfl, -, hc1, hc2, hg, x0, -, -, ht, -, -⟩ := h.words.cons
  have hP := h.pars.lt
  have hB := h.low
  have hgP : g ≠ P := by omega
  have hK1 := keyB_at h
  obtain ⟨c0, c1⟩ := two_cells h.pars
  have f1 := Lib.frozen_of_heap h.pars 1
  have h6z : decide ((6 : Int) < (D : Int)) = false := decide_eq_false (by omega)
  have h60z : decide ((60 : Int) < (n : Int) + 1) = false := decide_eq_false (by omega)
  have hkd : decide (t.kind = 3) = false := decide_eq_false hk
  have hkb : (t.kind == 3) = false := by rw [beq_eq_false_iff_ne]; exact hk
  obtain ⟨w1, hw1⟩ : ∃ w1, keyB w P n = w1 := ⟨_, rfl⟩
  rw [hw1] at hK1
  have y0 : ∀ j, j < w0.heap.size → w1.heap[j]? = w.heap[j]? := fun j hj => hK1.kept.block j (by omega) (by omega)
  have d0 := (World.cell?_of_block (w := w) (a := ⟨g, off, none⟩) (y0 g hg)).trans x0
  have K1 := Lib.hid hK1
  have HW := Lib.hid hw1
  have HG := Lib.hid hG
  have HT := Lib.hid ht
  have hgl : (greatL t.text).length ≤ 2000000 := by unfold greatL; rw [List.length_map]; exact ht
  have cW := word_st hK1.st
  unfold WordS at cW
  rw [show wordK (t :: l) = .ok (t.text, l) by rw [wordK, if_neg hk]] at cW
  have cGr := fun W => great_l t.text W ht
  have cSy := fun W hW => ofSystem_any (greatL t.text) W hgl hW
  have cNu := fun W => ofNumber_any (greatL t.text) W
  rw [hs] at cSy cNu cGr hsys
  have cSy : ∀ W, FlagG W → Calls Tryz.prog 77 #[.string ⟨([84, 79]).toArray⟩] W fun e w' => e = .returned (.tuple #[.string ⟨#[]⟩, .bool false, .bool false]) ∧ Below W.heap.size W w' := fun W hW => by
    have := cSy W hW
    rw [hsys] at this
    exact this
  rw [show numsK [84, 79] = 0 by decide] at cNu
  clear hsys hs
  clear h hK1 hw1 x0 y0 hr hR hk hG ht hgl
  unfold headK at HR
  have cSm := fun W => small_l [84, 79] W (by decide)
  cases hq : wordK l with
  | error E =>
    have HX : Hid (R = .error E) := Lib.hid (by rw [← HR.out, hq])
    go_enter Tryz.func46, Tryz.ntmps46
    go_upto_region 2 with fail
    rw [show (w.setCell ⟨P, 1, none⟩ (.int .i64 ((n : Int) + 1))).alloc (.cells #[.int .i64 0, .string ⟨#[]⟩, .string ⟨#[]⟩, .int .i64 0, .slice none 0 0, .slice none 0 0] 32) = w1 from HW.out]
    clear c0 c1 f1
    obtain ⟨c0, c1⟩ := two_cells K1.out.st.pars
    go_wp2_with (first
      | (go_at_call 75; go_loud (((with_reducible refine cW.mono ?_); rintro e w2 h2; obtain ⟨v2, rfl, hs2, st2, k2⟩ := h2; have K2 := K1.out.next hP k2 st2)))
      | (go_at_call 76; go_loud (((with_reducible refine (cGr _).mono ?_); rintro e w3 ⟨rfl, y3⟩; have K3 := K2.under y3; have cSy1 := cSy w3 (K3.st.glob HG.out).flag)))
      | (go_at_call 77; go_loud (((with_reducible refine cSy1.mono ?_); rintro e w4 ⟨rfl, y4⟩; have K4 := K3.under y4)))
      | (go_at_call 79; go_loud (((with_reducible refine (cNu _).mono ?_); rintro e w5 ⟨rfl, hw5⟩; rw [hw5]; clear hw5)))
      | (go_at_call 24; go_loud (((with_reducible refine (cSm _).mono ?_); rintro e w6 ⟨rfl, y6⟩; have K6 := K4.under y6; have cQ := word_st K6.st; unfold WordS at cQ; rw [hq] at cQ)))
      | (go_at_call 75; go_loud (((with_reducible refine cQ.mono ?_); rintro e w9 h9; obtain ⟨rfl, k9⟩ := h9))))
    exact ⟨rfl, keyS_bad HX.out ⟨rfl, K6.kept.trans k9⟩⟩
  | ok x =>
    obtain ⟨x, l'⟩ := x
    have HX : Hid (R = .ok (.mk 3 (smallL [84, 79]) x 0 [] [], l', n + 1)) := Lib.hid (by rw [← HR.out, hq])
    go_enter Tryz.func46, Tryz.ntmps46
    go_upto_region 2 with fail
    rw [show (w.setCell ⟨P, 1, none⟩ (.int .i64 ((n : Int) + 1))).alloc (.cells #[.int .i64 0, .string ⟨#[]⟩, .string ⟨#[]⟩, .int .i64 0, .slice none 0 0, .slice none 0 0] 32) = w1 from HW.out]
    clear c0 c1 f1
    obtain ⟨c0, c1⟩ := two_cells K1.out.st.pars
    go_wp2_with (first
      | (go_at_call 75; go_loud (((with_reducible refine cW.mono ?_); rintro e w2 h2; obtain ⟨v2, rfl, hs2, st2, k2⟩ := h2; have K2 := K1.out.next hP k2 st2)))
      | (go_at_call 76; go_loud (((with_reducible refine (cGr _).mono ?_); rintro e w3 ⟨rfl, y3⟩; have K3 := K2.under y3; have cSy1 := cSy w3 (K3.st.glob HG.out).flag)))
      | (go_at_call 77; go_loud (((with_reducible refine cSy1.mono ?_); rintro e w4 ⟨rfl, y4⟩; have K4 := K3.under y4)))
      | (go_at_call 79; go_loud (((with_reducible refine (cNu _).mono ?_); rintro e w5 ⟨rfl, hw5⟩; rw [hw5]; clear hw5)))
      | (go_at_call 24; go_loud (((with_reducible refine (cSm _).mono ?_); rintro e w6 ⟨rfl, y6⟩; have K6 := K4.under y6; have cQ := word_st K6.st; unfold WordS at cQ; rw [hq] at cQ)))
      | (go_at_call 75; go_loud (((with_reducible refine cQ.mono ?_); rintro e w7 h7; obtain ⟨v7, rfl, hs7, st7, k7⟩ := h7; have K7 := K6.next hP k7 st7; obtain ⟨r0, r1, r2, r3, r4, r5⟩ := ksix_cells K7.res; have fz := Lib.frozen_of_heap K7.res))))
    refine bodyPost_ret (results_cell_row (P := Tryz.prog) rfl _ _ w.heap.size _ _ _ _ rfl (kset_six K7.res _ _ _ _ _ _) Tryz.underlying32 rfl key_size) rfl ?_
    exact K7.done hP (keyC_leaf _ _ _ _ _ _ hs7 (by decide)) HX.out
set_option maxRecDepth 100000 in
set_option maxHeartbeats 16000000 in
theorem key_body (d D : Nat) (hD : D ≤ 6) (w0 : World) (hG : SrG w0) (P n : Nat) (v : Value) (t : Wd) (l : List Wd) (w : World) (h : StK w0 P n v (t :: l) w) (hn : n + 1 ≤ 60) (hk : t.kind ≠ 3) (hs : greatL t.text = [66, 79, 68, 89]) :
    Calls Tryz.prog 46 #[.pointer (some ⟨P, 0, none⟩), .int .i64 (D : Int)] w (KeyS w0 P (keyK (d + 1) (t :: l) n) w) := by
  have hsys : sysK (greatL t.text) = none := by rw [hs]; decide
  have hr : keyK (d + 1) (t :: l) n = textK 4 l (n + 1) := by
    rw [keyK_cons, if_neg (by omega), if_neg hk]
    unfold plainK
    rw [hsys]
    simp only
    rw [hs, if_neg (by decide)]
    rfl
  obtain ⟨R, hR⟩ : ∃ R, keyK (d + 1) (t :: l) n = R := ⟨_, rfl⟩
  rw [hR]
  have HR := Lib.hid (hr.symm.trans hR)
  obtain ⟨a, c, rfl, -, -⟩ := h.words.val
  obtain ⟨g, off, va, vc, rfl, -, hc1, hc2, hg, x0, -, -, ht, -, -⟩ := h.words.cons
  have hP := h.pars.lt
  have hB := h.low
  have hgP : g ≠ P := by omega
  have hK1 := keyB_at h
  obtain ⟨c0, c1⟩ := two_cells h.pars
  have f1 := Lib.frozen_of_heap h.pars 1
  have h6z : decide ((6 : Int) < (D : Int)) = false := decide_eq_false (by omega)
  have h60z : decide ((60 : Int) < (n : Int) + 1) = false := decide_eq_false (by omega)
  have hkd : decide (t.kind = 3) = false := decide_eq_false hk
  have hkb : (t.kind == 3) = false := by rw [beq_eq_false_iff_ne]; exact hk
  obtain ⟨w1, hw1⟩ : ∃ w1, keyB w P n = w1 := ⟨_, rfl⟩
  rw [hw1] at hK1
  have y0 : ∀ j, j < w0.heap.size → w1.heap[j]? = w.heap[j]? := fun j hj => hK1.kept.block j (by omega) (by omega)
  have d0 := (World.cell?_of_block (w := w) (a := ⟨g, off, none⟩) (y0 g hg)).trans x0
  have K1 := Lib.hid hK1
  have HW := Lib.hid hw1
  have HG := Lib.hid hG
  have HT := Lib.hid ht
  have hgl : (greatL t.text).length ≤ 2000000 := by unfold greatL; rw [List.length_map]; exact ht
  have cW := word_st hK1.st
  unfold WordS at cW
  rw [show wordK (t :: l) = .ok (t.text, l) by rw [wordK, if_neg hk]] at cW
  have cGr := fun W => great_l t.text W ht
  have cSy := fun W hW => ofSystem_any (greatL t.text) W hgl hW
  have cNu := fun W => ofNumber_any (greatL t.text) W
  rw [hs] at cSy cNu cGr hsys
  have cSy : ∀ W, FlagG W → Calls Tryz.prog 77 #[.string ⟨([66, 79, 68, 89]).toArray⟩] W fun e w' => e = .returned (.tuple #[.string ⟨#[]⟩, .bool false, .bool false]) ∧ Below W.heap.size W w' := fun W hW => by
    have := cSy W hW
    rw [hsys] at this
    exact this
  rw [show numsK [66, 79, 68, 89] = 0 by decide] at cNu
  clear hsys hs
  clear h hK1 hw1 x0 y0 hr hR hk hG ht hgl
  unfold textK at HR
  cases hq : wordK l with
  | error E =>
    have HX : Hid (R = .error E) := Lib.hid (by rw [← HR.out, hq])
    go_enter Tryz.func46, Tryz.ntmps46
    go_upto_region 2 with fail
    rw [show (w.setCell ⟨P, 1, none⟩ (.int .i64 ((n : Int) + 1))).alloc (.cells #[.int .i64 0, .string ⟨#[]⟩, .string ⟨#[]⟩, .int .i64 0, .slice none 0 0, .slice none 0 0] 32) = w1 from HW.out]
    clear c0 c1 f1
    obtain ⟨c0, c1⟩ := two_cells K1.out.st.pars
    go_wp2_with (first
      | (go_at_call 75; go_loud (((with_reducible refine cW.mono ?_); rintro e w2 h2; obtain ⟨v2, rfl, hs2, st2, k2⟩ := h2; have K2 := K1.out.next hP k2 st2)))
      | (go_at_call 76; go_loud (((with_reducible refine (cGr _).mono ?_); rintro e w3 ⟨rfl, y3⟩; have K3 := K2.under y3; have cSy1 := cSy w3 (K3.st.glob HG.out).flag)))
      | (go_at_call 77; go_loud (((with_reducible refine cSy1.mono ?_); rintro e w4 ⟨rfl, y4⟩; have K4 := K3.under y4)))
      | (go_at_call 79; go_loud (((with_reducible refine (cNu _).mono ?_); rintro e w5 ⟨rfl, hw5⟩; rw [hw5]; clear hw5; have cQ := word_st K4.st; unfold WordS at cQ; rw [hq] at cQ)))
      | (go_at_call 75; go_loud (((with_reducible refine cQ.mono ?_); rintro e w9 h9; obtain ⟨rfl, k9⟩ := h9))))
    exact ⟨rfl, keyS_bad HX.out ⟨rfl, K4.kept.trans k9⟩⟩
  | ok x =>
    obtain ⟨x, l'⟩ := x
    have HX : Hid (R = .ok (.mk 4 [] x 0 [] [], l', n + 1)) := Lib.hid (by rw [← HR.out, hq])
    go_enter Tryz.func46, Tryz.ntmps46
    go_upto_region 2 with fail
    rw [show (w.setCell ⟨P, 1, none⟩ (.int .i64 ((n : Int) + 1))).alloc (.cells #[.int .i64 0, .string ⟨#[]⟩, .string ⟨#[]⟩, .int .i64 0, .slice none 0 0, .slice none 0 0] 32) = w1 from HW.out]
    clear c0 c1 f1
    obtain ⟨c0, c1⟩ := two_cells K1.out.st.pars
    go_wp2_with (first
      | (go_at_call 75; go_loud (((with_reducible refine cW.mono ?_); rintro e w2 h2; obtain ⟨v2, rfl, hs2, st2, k2⟩ := h2; have K2 := K1.out.next hP k2 st2)))
      | (go_at_call 76; go_loud (((with_reducible refine (cGr _).mono ?_); rintro e w3 ⟨rfl, y3⟩; have K3 := K2.under y3; have cSy1 := cSy w3 (K3.st.glob HG.out).flag)))
      | (go_at_call 77; go_loud (((with_reducible refine cSy1.mono ?_); rintro e w4 ⟨rfl, y4⟩; have K4 := K3.under y4)))
      | (go_at_call 79; go_loud (((with_reducible refine (cNu _).mono ?_); rintro e w5 ⟨rfl, hw5⟩; rw [hw5]; clear hw5; have cQ := word_st K4.st; unfold WordS at cQ; rw [hq] at cQ)))
      | (go_at_call 75; go_loud (((with_reducible refine cQ.mono ?_); rintro e w7 h7; obtain ⟨v7, rfl, hs7, st7, k7⟩ := h7; have K7 := K4.next hP k7 st7; obtain ⟨r0, r1, r2, r3, r4, r5⟩ := ksix_cells K7.res; have fz := Lib.frozen_of_heap K7.res))))
    refine bodyPost_ret (results_cell_row (P := Tryz.prog) rfl _ _ w.heap.size _ _ _ _ rfl (kset_six K7.res _ _ _ _ _ _) Tryz.underlying32 rfl key_size) rfl ?_
    exact K7.done hP (keyC_leaf _ _ _ _ _ _ hs7 (by decide)) HX.out
set_option maxRecDepth 100000 in
set_option maxHeartbeats 16000000 in
theorem key_text (d D : Nat) (hD : D ≤ 6) (w0 : World) (hG : SrG w0) (P n : Nat) (v : Value) (t : Wd) (l : List Wd) (w : World) (h : StK w0 P n v (t :: l) w) (hn : n + 1 ≤ 60) (hk : t.kind ≠ 3) (hs : greatL t.text = [84, 69, 88, 84]) :
    Calls Tryz.prog 46 #[.pointer (some ⟨P, 0, none⟩), .int .i64 (D : Int)] w (KeyS w0 P (keyK (d + 1) (t :: l) n) w) := by
  have hsys : sysK (greatL t.text) = none := by rw [hs]; decide
  have hr : keyK (d + 1) (t :: l) n = textK 5 l (n + 1) := by
    rw [keyK_cons, if_neg (by omega), if_neg hk]
    unfold plainK
    rw [hsys]
    simp only
    rw [hs, if_neg (by decide)]
    rfl
  obtain ⟨R, hR⟩ : ∃ R, keyK (d + 1) (t :: l) n = R := ⟨_, rfl⟩
  rw [hR]
  have HR := Lib.hid (hr.symm.trans hR)
  obtain ⟨a, c, rfl, -, -⟩ := h.words.val
  obtain ⟨g, off, va, vc, rfl, -, hc1, hc2, hg, x0, -, -, ht, -, -⟩ := h.words.cons
  have hP := h.pars.lt
  have hB := h.low
  have hgP : g ≠ P := by omega
  have hK1 := keyB_at h
  obtain ⟨c0, c1⟩ := two_cells h.pars
  have f1 := Lib.frozen_of_heap h.pars 1
  have h6z : decide ((6 : Int) < (D : Int)) = false := decide_eq_false (by omega)
  have h60z : decide ((60 : Int) < (n : Int) + 1) = false := decide_eq_false (by omega)
  have hkd : decide (t.kind = 3) = false := decide_eq_false hk
  have hkb : (t.kind == 3) = false := by rw [beq_eq_false_iff_ne]; exact hk
  obtain ⟨w1, hw1⟩ : ∃ w1, keyB w P n = w1 := ⟨_, rfl⟩
  rw [hw1] at hK1
  have y0 : ∀ j, j < w0.heap.size → w1.heap[j]? = w.heap[j]? := fun j hj => hK1.kept.block j (by omega) (by omega)
  have d0 := (World.cell?_of_block (w := w) (a := ⟨g, off, none⟩) (y0 g hg)).trans x0
  have K1 := Lib.hid hK1
  have HW := Lib.hid hw1
  have HG := Lib.hid hG
  have HT := Lib.hid ht
  have hgl : (greatL t.text).length ≤ 2000000 := by unfold greatL; rw [List.length_map]; exact ht
  have cW := word_st hK1.st
  unfold WordS at cW
  rw [show wordK (t :: l) = .ok (t.text, l) by rw [wordK, if_neg hk]] at cW
  have cGr := fun W => great_l t.text W ht
  have cSy := fun W hW => ofSystem_any (greatL t.text) W hgl hW
  have cNu := fun W => ofNumber_any (greatL t.text) W
  rw [hs] at cSy cNu cGr hsys
  have cSy : ∀ W, FlagG W → Calls Tryz.prog 77 #[.string ⟨([84, 69, 88, 84]).toArray⟩] W fun e w' => e = .returned (.tuple #[.string ⟨#[]⟩, .bool false, .bool false]) ∧ Below W.heap.size W w' := fun W hW => by
    have := cSy W hW
    rw [hsys] at this
    exact this
  rw [show numsK [84, 69, 88, 84] = 0 by decide] at cNu
  clear hsys hs
  clear h hK1 hw1 x0 y0 hr hR hk hG ht hgl
  unfold textK at HR
  cases hq : wordK l with
  | error E =>
    have HX : Hid (R = .error E) := Lib.hid (by rw [← HR.out, hq])
    go_enter Tryz.func46, Tryz.ntmps46
    go_upto_region 2 with fail
    rw [show (w.setCell ⟨P, 1, none⟩ (.int .i64 ((n : Int) + 1))).alloc (.cells #[.int .i64 0, .string ⟨#[]⟩, .string ⟨#[]⟩, .int .i64 0, .slice none 0 0, .slice none 0 0] 32) = w1 from HW.out]
    clear c0 c1 f1
    obtain ⟨c0, c1⟩ := two_cells K1.out.st.pars
    go_wp2_with (first
      | (go_at_call 75; go_loud (((with_reducible refine cW.mono ?_); rintro e w2 h2; obtain ⟨v2, rfl, hs2, st2, k2⟩ := h2; have K2 := K1.out.next hP k2 st2)))
      | (go_at_call 76; go_loud (((with_reducible refine (cGr _).mono ?_); rintro e w3 ⟨rfl, y3⟩; have K3 := K2.under y3; have cSy1 := cSy w3 (K3.st.glob HG.out).flag)))
      | (go_at_call 77; go_loud (((with_reducible refine cSy1.mono ?_); rintro e w4 ⟨rfl, y4⟩; have K4 := K3.under y4)))
      | (go_at_call 79; go_loud (((with_reducible refine (cNu _).mono ?_); rintro e w5 ⟨rfl, hw5⟩; rw [hw5]; clear hw5; have cQ := word_st K4.st; unfold WordS at cQ; rw [hq] at cQ)))
      | (go_at_call 75; go_loud (((with_reducible refine cQ.mono ?_); rintro e w9 h9; obtain ⟨rfl, k9⟩ := h9))))
    exact ⟨rfl, keyS_bad HX.out ⟨rfl, K4.kept.trans k9⟩⟩
  | ok x =>
    obtain ⟨x, l'⟩ := x
    have HX : Hid (R = .ok (.mk 5 [] x 0 [] [], l', n + 1)) := Lib.hid (by rw [← HR.out, hq])
    go_enter Tryz.func46, Tryz.ntmps46
    go_upto_region 2 with fail
    rw [show (w.setCell ⟨P, 1, none⟩ (.int .i64 ((n : Int) + 1))).alloc (.cells #[.int .i64 0, .string ⟨#[]⟩, .string ⟨#[]⟩, .int .i64 0, .slice none 0 0, .slice none 0 0] 32) = w1 from HW.out]
    clear c0 c1 f1
    obtain ⟨c0, c1⟩ := two_cells K1.out.st.pars
    go_wp2_with (first
      | (go_at_call 75; go_loud (((with_reducible refine cW.mono ?_); rintro e w2 h2; obtain ⟨v2, rfl, hs2, st2, k2⟩ := h2; have K2 := K1.out.next hP k2 st2)))
      | (go_at_call 76; go_loud (((with_reducible refine (cGr _).mono ?_); rintro e w3 ⟨rfl, y3⟩; have K3 := K2.under y3; have cSy1 := cSy w3 (K3.st.glob HG.out).flag)))
      | (go_at_call 77; go_loud (((with_reducible refine cSy1.mono ?_); rintro e w4 ⟨rfl, y4⟩; have K4 := K3.under y4)))
      | (go_at_call 79; go_loud (((with_reducible refine (cNu _).mono ?_); rintro e w5 ⟨rfl, hw5⟩; rw [hw5]; clear hw5; have cQ := word_st K4.st; unfold WordS at cQ; rw [hq] at cQ)))
      | (go_at_call 75; go_loud (((with_reducible refine cQ.mono ?_); rintro e w7 h7; obtain ⟨v7, rfl, hs7, st7, k7⟩ := h7; have K7 := K4.next hP k7 st7; obtain ⟨r0, r1, r2, r3, r4, r5⟩ := ksix_cells K7.res; have fz := Lib.frozen_of_heap K7.res))))
    refine bodyPost_ret (results_cell_row (P := Tryz.prog) rfl _ _ w.heap.size _ _ _ _ rfl (kset_six K7.res _ _ _ _ _ _) Tryz.underlying32 rfl key_size) rfl ?_
    exact K7.done hP (keyC_leaf _ _ _ _ _ _ hs7 (by decide)) HX.out
set_option maxRecDepth 100000 in
set_option maxHeartbeats 16000000 in
theorem key_header (d D : Nat) (hD : D ≤ 6) (w0 : World) (hG : SrG w0) (P n : Nat) (v : Value) (t : Wd) (l : List Wd) (w : World) (h : StK w0 P n v (t :: l) w) (hn : n + 1 ≤ 60) (hk : t.kind ≠ 3) (hs : greatL t.text = [72, 69, 65, 68, 69, 82]) :
    Calls Tryz.prog 46 #[.pointer (some ⟨P, 0, none⟩), .int .i64 (D : Int)] w (KeyS w0 P (keyK (d + 1) (t :: l) n) w) := by
  have hsys : sysK (greatL t.text) = none := by rw [hs]; decide
  have hr : keyK (d + 1) (t :: l) n = match wordK l with | .error e => .error e | .ok (x, l') => headK (smallL x) l' (n + 1) := by
    rw [keyK_cons, if_neg (by omega), if_neg hk]
    unfold plainK
    rw [hsys]
    simp only
    rw [hs, if_neg (by decide)]
    show ((match wordK l with | .error e => .error e | .ok (x, l') => headK (smallL x) l' (n + 1)) : KeyE) = _
    cases wordK l <;> rfl
  obtain ⟨R, hR⟩ : ∃ R, keyK (d + 1) (t :: l) n = R := ⟨_, rfl⟩
  rw [hR]
  have HR := Lib.hid (hr.symm.trans hR)
  obtain ⟨a, c, rfl, -, -⟩ := h.words.val
  obtain ⟨g, off, va, vc, rfl, -, hc1, hc2, hg, x0, -, -, ht, -, -⟩ := h.words.cons
  have hP := h.pars.lt
  have hB := h.low
  have hgP : g ≠ P := by omega
  have hK1 := keyB_at h
  obtain ⟨c0, c1⟩ := two_cells h.pars
  have f1 := Lib.frozen_of_heap h.pars 1
  have h6z : decide ((6 : Int) < (D : Int)) = false := decide_eq_false (by omega)
  have h60z : decide ((60 : Int) < (n : Int) + 1) = false := decide_eq_false (by omega)
  have hkd : decide (t.kind = 3) = false := decide_eq_false hk
  have hkb : (t.kind == 3) = false := by rw [beq_eq_false_iff_ne]; exact hk
  obtain ⟨w1, hw1⟩ : ∃ w1, keyB w P n = w1 := ⟨_, rfl⟩
  rw [hw1] at hK1
  have y0 : ∀ j, j < w0.heap.size → w1.heap[j]? = w.heap[j]? := fun j hj => hK1.kept.block j (by omega) (by omega)
  have d0 := (World.cell?_of_block (w := w) (a := ⟨g, off, none⟩) (y0 g hg)).trans x0
  have K1 := Lib.hid hK1
  have HW := Lib.hid hw1
  have HG := Lib.hid hG
  have HT := Lib.hid ht
  have hgl : (greatL t.text).length ≤ 2000000 := by unfold greatL; rw [List.length_map]; exact ht
  have cW := word_st hK1.st
  unfold WordS at cW
  rw [show wordK (t :: l) = .ok (t.text, l) by rw [wordK, if_neg hk]] at cW
  have cGr := fun W => great_l t.text W ht
  have cSy := fun W hW => ofSystem_any (greatL t.text) W hgl hW
  have cNu := fun W => ofNumber_any (greatL t.text) W
  rw [hs] at cSy cNu cGr hsys
  have cSy : ∀ W, FlagG W → Calls Tryz.prog 77 #[.string ⟨([72, 69, 65, 68, 69, 82]).toArray⟩] W fun e w' => e = .returned (.tuple #[.string ⟨#[]⟩, .bool false, .bool false]) ∧ Below W.heap.size W w' := fun W hW => by
    have := cSy W hW
    rw [hsys] at this
    exact this
  rw [show numsK [72, 69, 65, 68, 69, 82] = 0 by decide] at cNu
  clear hsys hs
  clear h hK1 hw1 x0 y0 hr hR hk hG ht hgl
  unfold headK at HR
  cases hq : wordK l with
  | error E =>
    have HX : Hid (R = .error E) := Lib.hid (by rw [← HR.out, hq])
    go_enter Tryz.func46, Tryz.ntmps46
    go_upto_region 2 with fail
    rw [show (w.setCell ⟨P, 1, none⟩ (.int .i64 ((n : Int) + 1))).alloc (.cells #[.int .i64 0, .string ⟨#[]⟩, .string ⟨#[]⟩, .int .i64 0, .slice none 0 0, .slice none 0 0] 32) = w1 from HW.out]
    clear c0 c1 f1
    obtain ⟨c0, c1⟩ := two_cells K1.out.st.pars
    go_wp2_with (first
      | (go_at_call 75; go_loud (((with_reducible refine cW.mono ?_); rintro e w2 h2; obtain ⟨v2, rfl, hs2, st2, k2⟩ := h2; have K2 := K1.out.next hP k2 st2)))
      | (go_at_call 76; go_loud (((with_reducible refine (cGr _).mono ?_); rintro e w3 ⟨rfl, y3⟩; have K3 := K2.under y3; have cSy1 := cSy w3 (K3.st.glob HG.out).flag)))
      | (go_at_call 77; go_loud (((with_reducible refine cSy1.mono ?_); rintro e w4 ⟨rfl, y4⟩; have K4 := K3.under y4)))
      | (go_at_call 79; go_loud (((with_reducible refine (cNu _).mono ?_); rintro e w5 ⟨rfl, hw5⟩; rw [hw5]; clear hw5; have cQ := word_st K4.st; unfold WordS at cQ; rw [hq] at cQ)))
      | (go_at_call 75; go_loud (((with_reducible refine cQ.mono ?_); rintro e w9 h9; obtain ⟨rfl, k9⟩ := h9))))
    exact ⟨rfl, keyS_bad HX.out ⟨rfl, K4.kept.trans k9⟩⟩
  | ok x =>
    obtain ⟨x, l'⟩ := x
    cases hq2 : wordK l' with
    | error E =>
      have HX : Hid (R = .error E) := Lib.hid (by rw [← HR.out, hq]; simp only; rw [hq2])
      go_enter Tryz.func46, Tryz.ntmps46
      go_upto_region 2 with fail
      rw [show (w.setCell ⟨P, 1, none⟩ (.int .i64 ((n : Int) + 1))).alloc (.cells #[.int .i64 0, .string ⟨#[]⟩, .string ⟨#[]⟩, .int .i64 0, .slice none 0 0, .slice none 0 0] 32) = w1 from HW.out]
      clear c0 c1 f1
      obtain ⟨c0, c1⟩ := two_cells K1.out.st.pars
      go_wp2_with (first
        | (go_at_call 75; go_loud (((with_reducible refine cW.mono ?_); rintro e w2 h2; obtain ⟨v2, rfl, hs2, st2, k2⟩ := h2; have K2 := K1.out.next hP k2 st2)))
        | (go_at_call 76; go_loud (((with_reducible refine (cGr _).mono ?_); rintro e w3 ⟨rfl, y3⟩; have K3 := K2.under y3; have cSy1 := cSy w3 (K3.st.glob HG.out).flag)))
        | (go_at_call 77; go_loud (((with_reducible refine cSy1.mono ?_); rintro e w4 ⟨rfl, y4⟩; have K4 := K3.under y4)))
        | (go_at_call 79; go_loud (((with_reducible refine (cNu _).mono ?_); rintro e w5 ⟨rfl, hw5⟩; rw [hw5]; clear hw5; have cQ := word_st K4.st; unfold WordS at cQ; rw [hq] at cQ)))
        | (go_at_call 75; go_loud (((with_reducible refine cQ.mono ?_); rintro e w6 h6; obtain ⟨v6, rfl, hs6, st6, k6⟩ := h6; have K6 := K4.next hP k6 st6; have cSm := small_l x w6 hs6)))
        | (go_at_call 24; go_loud (((with_reducible refine cSm.mono ?_); rintro e w7 ⟨rfl, y7⟩; have K7 := K6.under y7; have cQ2 := word_st K7.st; unfold WordS at cQ2; rw [hq2] at cQ2)))
        | (go_at_call 75; go_loud (((with_reducible refine cQ2.mono ?_); rintro e w9 h9; obtain ⟨rfl, k9⟩ := h9))))
      exact ⟨rfl, keyS_bad HX.out ⟨rfl, K7.kept.trans k9⟩⟩
    | ok z =>
      obtain ⟨z, l''⟩ := z
      have HX : Hid (R = .ok (.mk 3 (smallL x) z 0 [] [], l'', n + 1)) := Lib.hid (by rw [← HR.out, hq]; simp only; rw [hq2])
      go_enter Tryz.func46, Tryz.ntmps46
      go_upto_region 2 with fail
      rw [show (w.setCell ⟨P, 1, none⟩ (.int .i64 ((n : Int) + 1))).alloc (.cells #[.int .i64 0, .string ⟨#[]⟩, .string ⟨#[]⟩, .int .i64 0, .slice none 0 0, .slice none 0 0] 32) = w1 from HW.out]
      clear c0 c1 f1
      obtain ⟨c0, c1⟩ := two_cells K1.out.st.pars
      go_wp2_with (first
        | (go_at_call 75; go_loud (((with_reducible refine cW.mono ?_); rintro e w2 h2; obtain ⟨v2, rfl, hs2, st2, k2⟩ := h2; have K2 := K1.out.next hP k2 st2)))
        | (go_at_call 76; go_loud (((with_reducible refine (cGr _).mono ?_); rintro e w3 ⟨rfl, y3⟩; have K3 := K2.under y3; have cSy1 := cSy w3 (K3.st.glob HG.out).flag)))
        | (go_at_call 77; go_loud (((with_reducible refine cSy1.mono ?_); rintro e w4 ⟨rfl, y4⟩; have K4 := K3.under y4)))
        | (go_at_call 79; go_loud (((with_reducible refine (cNu _).mono ?_); rintro e w5 ⟨rfl, hw5⟩; rw [hw5]; clear hw5; have cQ := word_st K4.st; unfold WordS at cQ; rw [hq] at cQ)))
        | (go_at_call 75; go_loud (((with_reducible refine cQ.mono ?_); rintro e w6 h6; obtain ⟨v6, rfl, hs6, st6, k6⟩ := h6; have K6 := K4.next hP k6 st6; have cSm := small_l x w6 hs6)))
        | (go_at_call 24; go_loud (((with_reducible refine cSm.mono ?_); rintro e w7 ⟨rfl, y7⟩; have K7 := K6.under y7; have cQ2 := word_st K7.st; unfold WordS at cQ2; rw [hq2] at cQ2)))
        | (go_at_call 75; go_loud (((with_reducible refine cQ2.mono ?_); rintro e w8 h8; obtain ⟨v8, rfl, hs8, st8, k8⟩ := h8; have K8 := K7.next hP k8 st8; obtain ⟨r0, r1, r2, r3, r4, r5⟩ := ksix_cells K8.res; have fz := Lib.frozen_of_heap K8.res))))
      refine bodyPost_ret (results_cell_row (P := Tryz.prog) rfl _ _ w.heap.size _ _ _ _ rfl (kset_six K8.res _ _ _ _ _ _) Tryz.underlying32 rfl key_size) rfl ?_
      exact K8.done hP (keyC_leaf _ _ _ _ _ _ hs8 (by decide)) HX.out
end Go.Proofs.YtcahhnjponeeeaaGreatDoor
namespace Go.Proofs.YtcahhnjponeeeaaGreatDoor
open Go.RowKit Go.Shelf Go.Sort
set_option linter.unusedSimpArgs false
set_option maxRecDepth 100000 in
set_option maxHeartbeats 16000000 in
theorem key_subject (d D : Nat) (hD : D ≤ 6) (w0 : World) (hG : SrG w0) (P n : Nat) (v : Value) (t : Wd) (l : List Wd) (w : World) (h : StK w0 P n v (t :: l) w) (hn : n + 1 ≤ 60) (hk : t.kind ≠ 3) (hs : greatL t.text = [83, 85, 66, 74, 69, 67, 84]) :
    Calls Tryz.prog 46 #[.pointer (some ⟨P, 0, none⟩), .int .i64 (D : Int)] w (KeyS w0 P (keyK (d + 1) (t :: l) n) w) := by
  have hsys : sysK (greatL t.text) = none := by rw [hs]; decide
  have hr : keyK (d + 1) (t :: l) n = headK (smallL [83, 85, 66, 74, 69, 67, 84]) l (n + 1) := by
    rw [keyK_cons, if_neg (by omega), if_neg hk]
    unfold plainK
    rw [hsys]
    simp only
    rw [hs, if_neg (by decide)]
    rfl
  obtain ⟨R, hR⟩ : ∃ R, keyK (d + 1) (t :: l) n = R := ⟨_, rfl⟩
  rw [hR]
  have HR := Lib.hid (hr.symm.trans hR)
  obtain ⟨a, c, rfl, -, -⟩ := h.words.val
  obtain ⟨g, off, va, vc, rfl, -, hc1, hc2, hg, x0, -, -, ht, -, -⟩ := h.words.cons
  have hP := h.pars.lt
  have hB := h.low
  have hgP : g ≠ P := by omega
  have hK1 := keyB_at h
  obtain ⟨c0, c1⟩ := two_cells h.pars
  have f1 := Lib.frozen_of_heap h.pars 1
  have h6z : decide ((6 : Int) < (D : Int)) = false := decide_eq_false (by omega)
  have h60z : decide ((60 : Int) < (n : Int) + 1) = false := decide_eq_false (by omega)
  have hkd : decide (t.kind = 3) = false := decide_eq_false hk
  have hkb : (t.kind == 3) = false := by rw [beq_eq_false_iff_ne]; exact hk
  obtain ⟨w1, hw1⟩ : ∃ w1, keyB w P n = w1 := ⟨_, rfl⟩
  rw [hw1] at hK1
  have y0 : ∀ j, j < w0.heap.size → w1.heap[j]? = w.heap[j]? := fun j hj => hK1.kept.block j (by omega) (by omega)
  have d0 := (World.cell?_of_block (w := w) (a := ⟨g, off, none⟩) (y0 g hg)).trans x0
  have K1 := Lib.hid hK1
  have HW := Lib.hid hw1
  have HG := Lib.hid hG
  have HT := Lib.hid ht
  have hgl : (greatL t.text).length ≤ 2000000 := by unfold greatL; rw [List.length_map]; exact ht
  have cW := word_st hK1.st
  unfold WordS at cW
  rw [show wordK (t :: l) = .ok (t.text, l) by rw [wordK, if_neg hk]] at cW
  have cGr := fun W => great_l t.text W ht
  have cSy := fun W hW => ofSystem_any (greatL t.text) W hgl hW
  have cNu := fun W => ofNumber_any (greatL t.text) W
  rw [hs] at cSy cNu cGr hsys
  have cSy : ∀ W, FlagG W → Calls Tryz.prog 77 #[.string ⟨([83, 85, 66, 74, 69, 67, 84]).toArray⟩] W fun e w' => e = .returned (.tuple #[.string ⟨#[]⟩, .bool false, .bool false]) ∧ Below W.heap.size W w' := fun W hW => by
    have := cSy W hW
    rw [hsys] at this
    exact this
  rw [show numsK [83, 85, 66, 74, 69, 67, 84] = 0 by decide] at cNu
  clear hsys hs
  clear h hK1 hw1 x0 y0 hr hR hk hG ht hgl
  unfold headK at HR
  have cSm := fun W => small_l [83, 85, 66, 74, 69, 67, 84] W (by decide)
  cases hq : wordK l with
  | error E =>
    have HX : Hid (R = .error E) := Lib.hid (by rw [← HR.out, hq])
    go_enter Tryz.func46, Tryz.ntmps46
    go_upto_region 2 with fail
    rw [show (w.setCell ⟨P, 1, none⟩ (.int .i64 ((n : Int) + 1))).alloc (.cells #[.int .i64 0, .string ⟨#[]⟩, .string ⟨#[]⟩, .int .i64 0, .slice none 0 0, .slice none 0 0] 32) = w1 from HW.out]
    clear c0 c1 f1
    obtain ⟨c0, c1⟩ := two_cells K1.out.st.pars
    go_wp2_with (first
      | (go_at_call 75; go_loud (((with_reducible refine cW.mono ?_); rintro e w2 h2; obtain ⟨v2, rfl, hs2, st2, k2⟩ := h2; have K2 := K1.out.next hP k2 st2)))
      | (go_at_call 76; go_loud (((with_reducible refine (cGr _).mono ?_); rintro e w3 ⟨rfl, y3⟩; have K3 := K2.under y3; have cSy1 := cSy w3 (K3.st.glob HG.out).flag)))
      | (go_at_call 77; go_loud (((with_reducible refine cSy1.mono ?_); rintro e w4 ⟨rfl, y4⟩; have K4 := K3.under y4)))
      | (go_at_call 79; go_loud (((with_reducible refine (cNu _).mono ?_); rintro e w5 ⟨rfl, hw5⟩; rw [hw5]; clear hw5)))
      | (go_at_call 24; go_loud (((with_reducible refine (cSm _).mono ?_); rintro e w6 ⟨rfl, y6⟩; have K6 := K4.under y6; have cQ := word_st K6.st; unfold WordS at cQ; rw [hq] at cQ)))
      | (go_at_call 75; go_loud (((with_reducible refine cQ.mono ?_); rintro e w9 h9; obtain ⟨rfl, k9⟩ := h9))))
    exact ⟨rfl, keyS_bad HX.out ⟨rfl, K6.kept.trans k9⟩⟩
  | ok x =>
    obtain ⟨x, l'⟩ := x
    have HX : Hid (R = .ok (.mk 3 (smallL [83, 85, 66, 74, 69, 67, 84]) x 0 [] [], l', n + 1)) := Lib.hid (by rw [← HR.out, hq])
    go_enter Tryz.func46, Tryz.ntmps46
    go_upto_region 2 with fail
    rw [show (w.setCell ⟨P, 1, none⟩ (.int .i64 ((n : Int) + 1))).alloc (.cells #[.int .i64 0, .string ⟨#[]⟩, .string ⟨#[]⟩, .int .i64 0, .slice none 0 0, .slice none 0 0] 32) = w1 from HW.out]
    clear c0 c1 f1
    obtain ⟨c0, c1⟩ := two_cells K1.out.st.pars
    go_wp2_with (first
      | (go_at_call 75; go_loud (((with_reducible refine cW.mono ?_); rintro e w2 h2; obtain ⟨v2, rfl, hs2, st2, k2⟩ := h2; have K2 := K1.out.next hP k2 st2)))
      | (go_at_call 76; go_loud (((with_reducible refine (cGr _).mono ?_); rintro e w3 ⟨rfl, y3⟩; have K3 := K2.under y3; have cSy1 := cSy w3 (K3.st.glob HG.out).flag)))
      | (go_at_call 77; go_loud (((with_reducible refine cSy1.mono ?_); rintro e w4 ⟨rfl, y4⟩; have K4 := K3.under y4)))
      | (go_at_call 79; go_loud (((with_reducible refine (cNu _).mono ?_); rintro e w5 ⟨rfl, hw5⟩; rw [hw5]; clear hw5)))
      | (go_at_call 24; go_loud (((with_reducible refine (cSm _).mono ?_); rintro e w6 ⟨rfl, y6⟩; have K6 := K4.under y6; have cQ := word_st K6.st; unfold WordS at cQ; rw [hq] at cQ)))
      | (go_at_call 75; go_loud (((with_reducible refine cQ.mono ?_); rintro e w7 h7; obtain ⟨v7, rfl, hs7, st7, k7⟩ := h7; have K7 := K6.next hP k7 st7; obtain ⟨r0, r1, r2, r3, r4, r5⟩ := ksix_cells K7.res; have fz := Lib.frozen_of_heap K7.res))))
    refine bodyPost_ret (results_cell_row (P := Tryz.prog) rfl _ _ w.heap.size _ _ _ _ rfl (kset_six K7.res _ _ _ _ _ _) Tryz.underlying32 rfl key_size) rfl ?_
    exact K7.done hP (keyC_leaf _ _ _ _ _ _ hs7 (by decide)) HX.out
set_option maxRecDepth 100000 in
set_option maxHeartbeats 16000000 in
theorem key_cc (d D : Nat) (hD : D ≤ 6) (w0 : World) (hG : SrG w0) (P n : Nat) (v : Value) (t : Wd) (l : List Wd) (w : World) (h : StK w0 P n v (t :: l) w) (hn : n + 1 ≤ 60) (hk : t.kind ≠ 3) (hs : greatL t.text = [67, 67]) :
    Calls Tryz.prog 46 #[.pointer (some ⟨P, 0, none⟩), .int .i64 (D : Int)] w (KeyS w0 P (keyK (d + 1) (t :: l) n) w) := by
  have hsys : sysK (greatL t.text) = none := by rw [hs]; decide
  have hr : keyK (d + 1) (t :: l) n = headK (smallL [67, 67]) l (n + 1) := by
    rw [keyK_cons, if_neg (by omega), if_neg hk]
    unfold plainK
    rw [hsys]
    simp only
    rw [hs, if_neg (by decide)]
    rfl
  obtain ⟨R, hR⟩ : ∃ R, keyK (d + 1) (t :: l) n = R := ⟨_, rfl⟩
  rw [hR]
  have HR := Lib.hid (hr.symm.trans hR)
  obtain ⟨a, c, rfl, -, -⟩ := h.words.val
  obtain ⟨g, off, va, vc, rfl, -, hc1, hc2, hg, x0, -, -, ht, -, -⟩ := h.words.cons
  have hP := h.pars.lt
  have hB := h.low
  have hgP : g ≠ P := by omega
  have hK1 := keyB_at h
  obtain ⟨c0, c1⟩ := two_cells h.pars
  have f1 := Lib.frozen_of_heap h.pars 1
  have h6z : decide ((6 : Int) < (D : Int)) = false := decide_eq_false (by omega)
  have h60z : decide ((60 : Int) < (n : Int) + 1) = false := decide_eq_false (by omega)
  have hkd : decide (t.kind = 3) = false := decide_eq_false hk
  have hkb : (t.kind == 3) = false := by rw [beq_eq_false_iff_ne]; exact hk
  obtain ⟨w1, hw1⟩ : ∃ w1, keyB w P n = w1 := ⟨_, rfl⟩
  rw [hw1] at hK1
  have y0 : ∀ j, j < w0.heap.size → w1.heap[j]? = w.heap[j]? := fun j hj => hK1.kept.block j (by omega) (by omega)
  have d0 := (World.cell?_of_block (w := w) (a := ⟨g, off, none⟩) (y0 g hg)).trans x0
  have K1 := Lib.hid hK1
  have HW := Lib.hid hw1
  have HG := Lib.hid hG
  have HT := Lib.hid ht
  have hgl : (greatL t.text).length ≤ 2000000 := by unfold greatL; rw [List.length_map]; exact ht
  have cW := word_st hK1.st
  unfold WordS at cW
  rw [show wordK (t :: l) = .ok (t.text, l) by rw [wordK, if_neg hk]] at cW
  have cGr := fun W => great_l t.text W ht
  have cSy := fun W hW => ofSystem_any (greatL t.text) W hgl hW
  have cNu := fun W => ofNumber_any (greatL t.text) W
  rw [hs] at cSy cNu cGr hsys
  have cSy : ∀ W, FlagG W → Calls Tryz.prog 77 #[.string ⟨([67, 67]).toArray⟩] W fun e w' => e = .returned (.tuple #[.string ⟨#[]⟩, .bool false, .bool false]) ∧ Below W.heap.size W w' := fun W hW => by
    have := cSy W hW
    rw [hsys] at this
    exact this
  rw [show numsK [67, 67] = 0 by decide] at cNu
  clear hsys hs
  clear h hK1 hw1 x0 y0 hr hR hk hG ht hgl
  unfold headK at HR
  have cSm := fun W => small_l [67, 67] W (by decide)
  cases hq : wordK l with
  | error E =>
    have HX : Hid (R = .error E) := Lib.hid (by rw [← HR.out, hq])
    go_enter Tryz.func46, Tryz.ntmps46
    go_upto_region 2 with fail
    rw [show (w.setCell ⟨P, 1, none⟩ (.int .i64 ((n : Int) + 1))).alloc (.cells #[.int .i64 0, .string ⟨#[]⟩, .string ⟨#[]⟩, .int .i64 0, .slice none 0 0, .slice none 0 0] 32) = w1 from HW.out]
    clear c0 c1 f1
    obtain ⟨c0, c1⟩ := two_cells K1.out.st.pars
    go_wp2_with (first
      | (go_at_call 75; go_loud (((with_reducible refine cW.mono ?_); rintro e w2 h2; obtain ⟨v2, rfl, hs2, st2, k2⟩ := h2; have K2 := K1.out.next hP k2 st2)))
      | (go_at_call 76; go_loud (((with_reducible refine (cGr _).mono ?_); rintro e w3 ⟨rfl, y3⟩; have K3 := K2.under y3; have cSy1 := cSy w3 (K3.st.glob HG.out).flag)))
      | (go_at_call 77; go_loud (((with_reducible refine cSy1.mono ?_); rintro e w4 ⟨rfl, y4⟩; have K4 := K3.under y4)))
      | (go_at_call 79; go_loud (((with_reducible refine (cNu _).mono ?_); rintro e w5 ⟨rfl, hw5⟩; rw [hw5]; clear hw5)))
      | (go_at_call 24; go_loud (((with_reducible refine (cSm _).mono ?_); rintro e w6 ⟨rfl, y6⟩; have K6 := K4.under y6; have cQ := word_st K6.st; unfold WordS at cQ; rw [hq] at cQ)))
      | (go_at_call 75; go_loud (((with_reducible refine cQ.mono ?_); rintro e w9 h9; obtain ⟨rfl, k9⟩ := h9))))
    exact ⟨rfl, keyS_bad HX.out ⟨rfl, K6.kept.trans k9⟩⟩
  | ok x =>
    obtain ⟨x, l'⟩ := x
    have HX : Hid (R = .ok (.mk 3 (smallL [67, 67]) x 0 [] [], l', n + 1)) := Lib.hid (by rw [← HR.out, hq])
    go_enter Tryz.func46, Tryz.ntmps46
    go_upto_region 2 with fail
    rw [show (w.setCell ⟨P, 1, none⟩ (.int .i64 ((n : Int) + 1))).alloc (.cells #[.int .i64 0, .string ⟨#[]⟩, .string ⟨#[]⟩, .int .i64 0, .slice none 0 0, .slice none 0 0] 32) = w1 from HW.out]
    clear c0 c1 f1
    obtain ⟨c0, c1⟩ := two_cells K1.out.st.pars
    go_wp2_with (first
      | (go_at_call 75; go_loud (((with_reducible refine cW.mono ?_); rintro e w2 h2; obtain ⟨v2, rfl, hs2, st2, k2⟩ := h2; have K2 := K1.out.next hP k2 st2)))
      | (go_at_call 76; go_loud (((with_reducible refine (cGr _).mono ?_); rintro e w3 ⟨rfl, y3⟩; have K3 := K2.under y3; have cSy1 := cSy w3 (K3.st.glob HG.out).flag)))
      | (go_at_call 77; go_loud (((with_reducible refine cSy1.mono ?_); rintro e w4 ⟨rfl, y4⟩; have K4 := K3.under y4)))
      | (go_at_call 79; go_loud (((with_reducible refine (cNu _).mono ?_); rintro e w5 ⟨rfl, hw5⟩; rw [hw5]; clear hw5)))
      | (go_at_call 24; go_loud (((with_reducible refine (cSm _).mono ?_); rintro e w6 ⟨rfl, y6⟩; have K6 := K4.under y6; have cQ := word_st K6.st; unfold WordS at cQ; rw [hq] at cQ)))
      | (go_at_call 75; go_loud (((with_reducible refine cQ.mono ?_); rintro e w7 h7; obtain ⟨v7, rfl, hs7, st7, k7⟩ := h7; have K7 := K6.next hP k7 st7; obtain ⟨r0, r1, r2, r3, r4, r5⟩ := ksix_cells K7.res; have fz := Lib.frozen_of_heap K7.res))))
    refine bodyPost_ret (results_cell_row (P := Tryz.prog) rfl _ _ w.heap.size _ _ _ _ rfl (kset_six K7.res _ _ _ _ _ _) Tryz.underlying32 rfl key_size) rfl ?_
    exact K7.done hP (keyC_leaf _ _ _ _ _ _ hs7 (by decide)) HX.out
set_option maxRecDepth 100000 in
set_option maxHeartbeats 16000000 in
theorem key_keyword (d D : Nat) (hD : D ≤ 6) (w0 : World) (hG : SrG w0) (P n : Nat) (v : Value) (t : Wd) (l : List Wd) (w : World) (h : StK w0 P n v (t :: l) w) (hn : n + 1 ≤ 60) (hk : t.kind ≠ 3) (hs : greatL t.text = [75, 69, 89, 87, 79, 82, 68]) :
    Calls Tryz.prog 46 #[.pointer (some ⟨P, 0, none⟩), .int .i64 (D : Int)] w (KeyS w0 P (keyK (d + 1) (t :: l) n) w) := by
  have hsys : sysK (greatL t.text) = none := by rw [hs]; decide
  have hr : keyK (d + 1) (t :: l) n = match flagK l with | .error e => .error e | .ok (x, l') => .ok (.mk 2 x [] 0 [] [], l', n + 1) := by
    rw [keyK_cons, if_neg (by omega), if_neg hk]
    unfold plainK
    rw [hsys]
    simp only
    rw [hs, if_neg (by decide)]
    show ((match flagK l with | .error e => .error e | .ok (x, l') => .ok (.mk 2 x [] 0 [] [], l', n + 1)) : KeyE) = _
    cases flagK l <;> rfl
  obtain ⟨R, hR⟩ : ∃ R, keyK (d + 1) (t :: l) n = R := ⟨_, rfl⟩
  rw [hR]
  have HR := Lib.hid (hr.symm.trans hR)
  obtain ⟨a, c, rfl, -, -⟩ := h.words.val
  obtain ⟨g, off, va, vc, rfl, -, hc1, hc2, hg, x0, -, -, ht, -, -⟩ := h.words.cons
  have hP := h.pars.lt
  have hB := h.low
  have hgP : g ≠ P := by omega
  have hK1 := keyB_at h
  obtain ⟨c0, c1⟩ := two_cells h.pars
  have f1 := Lib.frozen_of_heap h.pars 1
  have h6z : decide ((6 : Int) < (D : Int)) = false := decide_eq_false (by omega)
  have h60z : decide ((60 : Int) < (n : Int) + 1) = false := decide_eq_false (by omega)
  have hkd : decide (t.kind = 3) = false := decide_eq_false hk
  have hkb : (t.kind == 3) = false := by rw [beq_eq_false_iff_ne]; exact hk
  obtain ⟨w1, hw1⟩ : ∃ w1, keyB w P n = w1 := ⟨_, rfl⟩
  rw [hw1] at hK1
  have y0 : ∀ j, j < w0.heap.size → w1.heap[j]? = w.heap[j]? := fun j hj => hK1.kept.block j (by omega) (by omega)
  have d0 := (World.cell?_of_block (w := w) (a := ⟨g, off, none⟩) (y0 g hg)).trans x0
  have K1 := Lib.hid hK1
  have HW := Lib.hid hw1
  have HG := Lib.hid hG
  have HT := Lib.hid ht
  have hgl : (greatL t.text).length ≤ 2000000 := by unfold greatL; rw [List.length_map]; exact ht
  have cW := word_st hK1.st
  unfold WordS at cW
  rw [show wordK (t :: l) = .ok (t.text, l) by rw [wordK, if_neg hk]] at cW
  have cGr := fun W => great_l t.text W ht
  have cSy := fun W hW => ofSystem_any (greatL t.text) W hgl hW
  have cNu := fun W => ofNumber_any (greatL t.text) W
  rw [hs] at cSy cNu cGr hsys
  have cSy : ∀ W, FlagG W → Calls Tryz.prog 77 #[.string ⟨([75, 69, 89, 87, 79, 82, 68]).toArray⟩] W fun e w' => e = .returned (.tuple #[.string ⟨#[]⟩, .bool false, .bool false]) ∧ Below W.heap.size W w' := fun W hW => by
    have := cSy W hW
    rw [hsys] at this
    exact this
  rw [show numsK [75, 69, 89, 87, 79, 82, 68] = 0 by decide] at cNu
  clear hsys hs
  clear h hK1 hw1 x0 y0 hr hR hk hG ht hgl
  cases hq : flagK l with
  | error E =>
    have HX : Hid (R = .error E) := Lib.hid (by rw [← HR.out, hq])
    go_enter Tryz.func46, Tryz.ntmps46
    go_upto_region 2 with fail
    rw [show (w.setCell ⟨P, 1, none⟩ (.int .i64 ((n : Int) + 1))).alloc (.cells #[.int .i64 0, .string ⟨#[]⟩, .string ⟨#[]⟩, .int .i64 0, .slice none 0 0, .slice none 0 0] 32) = w1 from HW.out]
    clear c0 c1 f1
    obtain ⟨c0, c1⟩ := two_cells K1.out.st.pars
    go_wp2_with (first
      | (go_at_call 75; go_loud (((with_reducible refine cW.mono ?_); rintro e w2 h2; obtain ⟨v2, rfl, hs2, st2, k2⟩ := h2; have K2 := K1.out.next hP k2 st2)))
      | (go_at_call 76; go_loud (((with_reducible refine (cGr _).mono ?_); rintro e w3 ⟨rfl, y3⟩; have K3 := K2.under y3; have cSy1 := cSy w3 (K3.st.glob HG.out).flag)))
      | (go_at_call 77; go_loud (((with_reducible refine cSy1.mono ?_); rintro e w4 ⟨rfl, y4⟩; have K4 := K3.under y4)))
      | (go_at_call 79; go_loud (((with_reducible refine (cNu _).mono ?_); rintro e w5 ⟨rfl, hw5⟩; rw [hw5]; clear hw5; have cQ := flag_st K4.st HG.out; unfold FlagS at cQ; rw [hq] at cQ)))
      | (go_at_call 81; go_loud (((with_reducible refine cQ.mono ?_); rintro e w9 h9; obtain ⟨rfl, k9⟩ := h9))))
    exact ⟨rfl, keyS_bad HX.out ⟨rfl, K4.kept.trans k9⟩⟩
  | ok x =>
    obtain ⟨x, l'⟩ := x
    have HX : Hid (R = .ok (.mk 2 x [] 0 [] [], l', n + 1)) := Lib.hid (by rw [← HR.out, hq])
    go_enter Tryz.func46, Tryz.ntmps46
    go_upto_region 2 with fail
    rw [show (w.setCell ⟨P, 1, none⟩ (.int .i64 ((n : Int) + 1))).alloc (.cells #[.int .i64 0, .string ⟨#[]⟩, .string ⟨#[]⟩, .int .i64 0, .slice none 0 0, .slice none 0 0] 32) = w1 from HW.out]
    clear c0 c1 f1
    obtain ⟨c0, c1⟩ := two_cells K1.out.st.pars
    go_wp2_with (first
      | (go_at_call 75; go_loud (((with_reducible refine cW.mono ?_); rintro e w2 h2; obtain ⟨v2, rfl, hs2, st2, k2⟩ := h2; have K2 := K1.out.next hP k2 st2)))
      | (go_at_call 76; go_loud (((with_reducible refine (cGr _).mono ?_); rintro e w3 ⟨rfl, y3⟩; have K3 := K2.under y3; have cSy1 := cSy w3 (K3.st.glob HG.out).flag)))
      | (go_at_call 77; go_loud (((with_reducible refine cSy1.mono ?_); rintro e w4 ⟨rfl, y4⟩; have K4 := K3.under y4)))
      | (go_at_call 79; go_loud (((with_reducible refine (cNu _).mono ?_); rintro e w5 ⟨rfl, hw5⟩; rw [hw5]; clear hw5; have cQ := flag_st K4.st HG.out; unfold FlagS at cQ; rw [hq] at cQ)))
      | (go_at_call 81; go_loud (((with_reducible refine cQ.mono ?_); rintro e w7 h7; obtain ⟨v7, rfl, st7, k7⟩ := h7; have K7 := K4.next hP k7 st7; obtain ⟨r0, r1, r2, r3, r4, r5⟩ := ksix_cells K7.res; have fz := Lib.frozen_of_heap K7.res))))
    refine bodyPost_ret (results_cell_row (P := Tryz.prog) rfl _ _ w.heap.size _ _ _ _ rfl (kset_six K7.res _ _ _ _ _ _) Tryz.underlying32 rfl key_size) rfl ?_
    exact K7.done hP (keyC_leaf _ _ _ _ _ _ (by decide) (by decide)) HX.out
set_option maxRecDepth 100000 in
set_option maxHeartbeats 16000000 in
theorem key_unkeyword (d D : Nat) (hD : D ≤ 6) (w0 : World) (hG : SrG w0) (P n : Nat) (v : Value) (t : Wd) (l : List Wd) (w : World) (h : StK w0 P n v (t :: l) w) (hn : n + 1 ≤ 60) (hk : t.kind ≠ 3) (hs : greatL t.text = [85, 78, 75, 69, 89, 87, 79, 82, 68]) :
    Calls Tryz.prog 46 #[.pointer (some ⟨P, 0, none⟩), .int .i64 (D : Int)] w (KeyS w0 P (keyK (d + 1) (t :: l) n) w) := by
  have hsys : sysK (greatL t.text) = none := by rw [hs]; decide
  have hr : keyK (d + 1) (t :: l) n = match flagK l with | .error e => .error e | .ok (x, l') => .ok (notK (.mk 2 x [] 0 [] []), l', n + 1) := by
    rw [keyK_cons, if_neg (by omega), if_neg hk]
    unfold plainK
    rw [hsys]
    simp only
    rw [hs, if_neg (by decide)]
    show ((match flagK l with | .error e => .error e | .ok (x, l') => .ok (notK (.mk 2 x [] 0 [] []), l', n + 1)) : KeyE) = _
    cases flagK l <;> rfl
  obtain ⟨R, hR⟩ : ∃ R, keyK (d + 1) (t :: l) n = R := ⟨_, rfl⟩
  rw [hR]
  have HR := Lib.hid (hr.symm.trans hR)
  obtain ⟨a, c, rfl, -, -⟩ := h.words.val
  obtain ⟨g, off, va, vc, rfl, -, hc1, hc2, hg, x0, -, -, ht, -, -⟩ := h.words.cons
  have hP := h.pars.lt
  have hB := h.low
  have hgP : g ≠ P := by omega
  have hK1 := keyB_at h
  obtain ⟨c0, c1⟩ := two_cells h.pars
  have f1 := Lib.frozen_of_heap h.pars 1
  have h6z : decide ((6 : Int) < (D : Int)) = false := decide_eq_false (by omega)
  have h60z : decide ((60 : Int) < (n : Int) + 1) = false := decide_eq_false (by omega)
  have hkd : decide (t.kind = 3) = false := decide_eq_false hk
  have hkb : (t.kind == 3) = false := by rw [beq_eq_false_iff_ne]; exact hk
  obtain ⟨w1, hw1⟩ : ∃ w1, keyB w P n = w1 := ⟨_, rfl⟩
  rw [hw1] at hK1
  have y0 : ∀ j, j < w0.heap.size → w1.heap[j]? = w.heap[j]? := fun j hj => hK1.kept.block j (by omega) (by omega)
  have d0 := (World.cell?_of_block (w := w) (a := ⟨g, off, none⟩) (y0 g hg)).trans x0
  have K1 := Lib.hid hK1
  have HW := Lib.hid hw1
  have HG := Lib.hid hG
  have HT := Lib.hid ht
  have hgl : (greatL t.text).length ≤ 2000000 := by unfold greatL; rw [List.length_map]; exact ht
  have cW := word_st hK1.st
  unfold WordS at cW
  rw [show wordK (t :: l) = .ok (t.text, l) by rw [wordK, if_neg hk]] at cW
  have cGr := fun W => great_l t.text W ht
  have cSy := fun W hW => ofSystem_any (greatL t.text) W hgl hW
  have cNu := fun W => ofNumber_any (greatL t.text) W
  rw [hs] at cSy cNu cGr hsys
  have cSy : ∀ W, FlagG W → Calls Tryz.prog 77 #[.string ⟨([85, 78, 75, 69, 89, 87, 79, 82, 68]).toArray⟩] W fun e w' => e = .returned (.tuple #[.string ⟨#[]⟩, .bool false, .bool false]) ∧ Below W.heap.size W w' := fun W hW => by
    have := cSy W hW
    rw [hsys] at this
    exact this
  rw [show numsK [85, 78, 75, 69, 89, 87, 79, 82, 68] = 0 by decide] at cNu
  clear hsys hs
  clear h hK1 hw1 x0 y0 hr hR hk hG ht hgl
  cases hq : flagK l with
  | error E =>
    have HX : Hid (R = .error E) := Lib.hid (by rw [← HR.out, hq])
    go_enter Tryz.func46, Tryz.ntmps46
    go_upto_region 2 with fail
    rw [show (w.setCell ⟨P, 1, none⟩ (.int .i64 ((n : Int) + 1))).alloc (.cells #[.int .i64 0, .string ⟨#[]⟩, .string ⟨#[]⟩, .int .i64 0, .slice none 0 0, .slice none 0 0] 32) = w1 from HW.out]
    clear c0 c1 f1
    obtain ⟨c0, c1⟩ := two_cells K1.out.st.pars
    go_wp2_with (first
      | (go_at_call 75; go_loud (((with_reducible refine cW.mono ?_); rintro e w2 h2; obtain ⟨v2, rfl, hs2, st2, k2⟩ := h2; have K2 := K1.out.next hP k2 st2)))
      | (go_at_call 76; go_loud (((with_reducible refine (cGr _).mono ?_); rintro e w3 ⟨rfl, y3⟩; have K3 := K2.under y3; have cSy1 := cSy w3 (K3.st.glob HG.out).flag)))
      | (go_at_call 77; go_loud (((with_reducible refine cSy1.mono ?_); rintro e w4 ⟨rfl, y4⟩; have K4 := K3.under y4)))
      | (go_at_call 79; go_loud (((with_reducible refine (cNu _).mono ?_); rintro e w5 ⟨rfl, hw5⟩; rw [hw5]; clear hw5; have cQ := flag_st K4.st HG.out; unfold FlagS at cQ; rw [hq] at cQ)))
      | (go_at_call 81; go_loud (((with_reducible refine cQ.mono ?_); rintro e w9 h9; obtain ⟨rfl, k9⟩ := h9))))
    exact ⟨rfl, keyS_bad HX.out ⟨rfl, K4.kept.trans k9⟩⟩
  | ok x =>
    obtain ⟨x, l'⟩ := x
    have HX : Hid (R = .ok (notK (.mk 2 x [] 0 [] []), l', n + 1)) := Lib.hid (by rw [← HR.out, hq])
    go_enter Tryz.func46, Tryz.ntmps46
    go_upto_region 2 with fail
    rw [show (w.setCell ⟨P, 1, none⟩ (.int .i64 ((n : Int) + 1))).alloc (.cells #[.int .i64 0, .string ⟨#[]⟩, .string ⟨#[]⟩, .int .i64 0, .slice none 0 0, .slice none 0 0] 32) = w1 from HW.out]
    clear c0 c1 f1
    obtain ⟨c0, c1⟩ := two_cells K1.out.st.pars
    go_wp2_with (first
      | (go_at_call 75; go_loud (((with_reducible refine cW.mono ?_); rintro e w2 h2; obtain ⟨v2, rfl, hs2, st2, k2⟩ := h2; have K2 := K1.out.next hP k2 st2)))
      | (go_at_call 76; go_loud (((with_reducible refine (cGr _).mono ?_); rintro e w3 ⟨rfl, y3⟩; have K3 := K2.under y3; have cSy1 := cSy w3 (K3.st.glob HG.out).flag)))
      | (go_at_call 77; go_loud (((with_reducible refine cSy1.mono ?_); rintro e w4 ⟨rfl, y4⟩; have K4 := K3.under y4)))
      | (go_at_call 79; go_loud (((with_reducible refine (cNu _).mono ?_); rintro e w5 ⟨rfl, hw5⟩; rw [hw5]; clear hw5; have cQ := flag_st K4.st HG.out; unfold FlagS at cQ; rw [hq] at cQ)))
      | (go_at_call 81; go_loud (((with_reducible refine cQ.mono ?_); rintro e w7 h7; obtain ⟨v7, rfl, st7, k7⟩ := h7; have K7 := K4.next hP k7 st7; have cNo := notK_any (.int .i64 2) (.string ⟨x.toArray⟩) (.string ⟨#[]⟩) (.int .i64 0) (.slice none 0 0) (.slice none 0 0) w7)))
      | (go_at_call 78; go_loud (((with_reducible refine cNo.mono ?_); rintro e w8 ⟨rfl, y8, hz8⟩; have K8 := K7.under y8; obtain ⟨r0, r1, r2, r3, r4, r5⟩ := ksix_cells K8.res; have fz := Lib.frozen_of_heap K8.res))))
    have hs7 := K7.size
    refine bodyPost_ret (results_cell_row (P := Tryz.prog) rfl _ _ w.heap.size _ _ _ _ rfl (kset_six K8.res _ _ _ _ _ _) Tryz.underlying32 rfl key_size) rfl ?_
    exact K8.done hP (keyC_one hz8 (by omega) (keyC_leaf _ _ _ _ _ _ (by decide) (by decide))) HX.out
set_option maxRecDepth 100000 in
set_option maxHeartbeats 16000000 in
theorem key_uid (d D : Nat) (hD : D ≤ 6) (w0 : World) (hG : SrG w0) (P n : Nat) (v : Value) (t : Wd) (l : List Wd) (w : World) (h : StK w0 P n v (t :: l) w) (hn : n + 1 ≤ 60) (hk : t.kind ≠ 3) (hs : greatL t.text = [85, 73, 68]) :
    Calls Tryz.prog 46 #[.pointer (some ⟨P, 0, none⟩), .int .i64 (D : Int)] w (KeyS w0 P (keyK (d + 1) (t :: l) n) w) := by
  have hsys : sysK (greatL t.text) = none := by rw [hs]; decide
  have hr : keyK (d + 1) (t :: l) n = match wordK l with | .error e => .error e | .ok (x, l') => (match parseS x with | .error e => .error e | .ok r => .ok (.mk 11 [] [] 0 r [], l', n + 1)) := by
    rw [keyK_cons, if_neg (by omega), if_neg hk]
    unfold plainK
    rw [hsys]
    simp only
    rw [hs, if_neg (by decide)]
    show ((match wordK l with | .error e => .error e | .ok (x, l') => (match parseS x with | .error e => .error e | .ok r => .ok (.mk 11 [] [] 0 r [], l', n + 1))) : KeyE) = _
    cases wordK l <;> rfl
  obtain ⟨R, hR⟩ : ∃ R, keyK (d + 1) (t :: l) n = R := ⟨_, rfl⟩
  rw [hR]
  have HR := Lib.hid (hr.symm.trans hR)
  obtain ⟨a, c, rfl, -, -⟩ := h.words.val
  obtain ⟨g, off, va, vc, rfl, -, hc1, hc2, hg, x0, -, -, ht, -, -⟩ := h.words.cons
  have hP := h.pars.lt
  have hB := h.low
  have hgP : g ≠ P := by omega
  have hK1 := keyB_at h
  obtain ⟨c0, c1⟩ := two_cells h.pars
  have f1 := Lib.frozen_of_heap h.pars 1
  have h6z : decide ((6 : Int) < (D : Int)) = false := decide_eq_false (by omega)
  have h60z : decide ((60 : Int) < (n : Int) + 1) = false := decide_eq_false (by omega)
  have hkd : decide (t.kind = 3) = false := decide_eq_false hk
  have hkb : (t.kind == 3) = false := by rw [beq_eq_false_iff_ne]; exact hk
  obtain ⟨w1, hw1⟩ : ∃ w1, keyB w P n = w1 := ⟨_, rfl⟩
  rw [hw1] at hK1
  have y0 : ∀ j, j < w0.heap.size → w1.heap[j]? = w.heap[j]? := fun j hj => hK1.kept.block j (by omega) (by omega)
  have d0 := (World.cell?_of_block (w := w) (a := ⟨g, off, none⟩) (y0 g hg)).trans x0
  have K1 := Lib.hid hK1
  have HW := Lib.hid hw1
  have HG := Lib.hid hG
  have HT := Lib.hid ht
  have hgl : (greatL t.text).length ≤ 2000000 := by unfold greatL; rw [List.length_map]; exact ht
  have cW := word_st hK1.st
  unfold WordS at cW
  rw [show wordK (t :: l) = .ok (t.text, l) by rw [wordK, if_neg hk]] at cW
  have cGr := fun W => great_l t.text W ht
  have cSy := fun W hW => ofSystem_any (greatL t.text) W hgl hW
  have cNu := fun W => ofNumber_any (greatL t.text) W
  rw [hs] at cSy cNu cGr hsys
  have cSy : ∀ W, FlagG W → Calls Tryz.prog 77 #[.string ⟨([85, 73, 68]).toArray⟩] W fun e w' => e = .returned (.tuple #[.string ⟨#[]⟩, .bool false, .bool false]) ∧ Below W.heap.size W w' := fun W hW => by
    have := cSy W hW
    rw [hsys] at this
    exact this
  rw [show numsK [85, 73, 68] = 0 by decide] at cNu
  clear hsys hs
  clear h hK1 hw1 x0 y0 hr hR hk hG ht hgl
  cases hq : wordK l with
  | error E =>
    have HX : Hid (R = .error E) := Lib.hid (by rw [← HR.out, hq])
    go_enter Tryz.func46, Tryz.ntmps46
    go_upto_region 2 with fail
    rw [show (w.setCell ⟨P, 1, none⟩ (.int .i64 ((n : Int) + 1))).alloc (.cells #[.int .i64 0, .string ⟨#[]⟩, .string ⟨#[]⟩, .int .i64 0, .slice none 0 0, .slice none 0 0] 32) = w1 from HW.out]
    clear c0 c1 f1
    obtain ⟨c0, c1⟩ := two_cells K1.out.st.pars
    go_wp2_with (first
      | (go_at_call 75; go_loud (((with_reducible refine cW.mono ?_); rintro e w2 h2; obtain ⟨v2, rfl, hs2, st2, k2⟩ := h2; have K2 := K1.out.next hP k2 st2)))
      | (go_at_call 76; go_loud (((with_reducible refine (cGr _).mono ?_); rintro e w3 ⟨rfl, y3⟩; have K3 := K2.under y3; have cSy1 := cSy w3 (K3.st.glob HG.out).flag)))
      | (go_at_call 77; go_loud (((with_reducible refine cSy1.mono ?_); rintro e w4 ⟨rfl, y4⟩; have K4 := K3.under y4)))
      | (go_at_call 79; go_loud (((with_reducible refine (cNu _).mono ?_); rintro e w5 ⟨rfl, hw5⟩; rw [hw5]; clear hw5; have cQ := word_st K4.st; unfold WordS at cQ; rw [hq] at cQ)))
      | (go_at_call 75; go_loud (((with_reducible refine cQ.mono ?_); rintro e w9 h9; obtain ⟨rfl, k9⟩ := h9))))
    exact ⟨rfl, keyS_bad HX.out ⟨rfl, K4.kept.trans k9⟩⟩
  | ok x =>
    obtain ⟨x, l'⟩ := x
    cases hq2 : parseS x with
    | error E =>
      have HX : Hid (R = .error E) := Lib.hid (by rw [← HR.out, hq]; simp only; rw [hq2])
      go_enter Tryz.func46, Tryz.ntmps46
      go_upto_region 2 with fail
      rw [show (w.setCell ⟨P, 1, none⟩ (.int .i64 ((n : Int) + 1))).alloc (.cells #[.int .i64 0, .string ⟨#[]⟩, .string ⟨#[]⟩, .int .i64 0, .slice none 0 0, .slice none 0 0] 32) = w1 from HW.out]
      clear c0 c1 f1
      obtain ⟨c0, c1⟩ := two_cells K1.out.st.pars
      go_wp2_with (first
        | (go_at_call 75; go_loud (((with_reducible refine cW.mono ?_); rintro e w2 h2; obtain ⟨v2, rfl, hs2, st2, k2⟩ := h2; have K2 := K1.out.next hP k2 st2)))
        | (go_at_call 76; go_loud (((with_reducible refine (cGr _).mono ?_); rintro e w3 ⟨rfl, y3⟩; have K3 := K2.under y3; have cSy1 := cSy w3 (K3.st.glob HG.out).flag)))
        | (go_at_call 77; go_loud (((with_reducible refine cSy1.mono ?_); rintro e w4 ⟨rfl, y4⟩; have K4 := K3.under y4)))
        | (go_at_call 79; go_loud (((with_reducible refine (cNu _).mono ?_); rintro e w5 ⟨rfl, hw5⟩; rw [hw5]; clear hw5; have cQ := word_st K4.st; unfold WordS at cQ; rw [hq] at cQ)))
        | (go_at_call 75; go_loud (((with_reducible refine cQ.mono ?_); rintro e w6 h6; obtain ⟨v6, rfl, hs6, st6, k6⟩ := h6; have K6 := K4.next hP k6 st6; have cQ2 := set_st x P w6 hs6 (K6.st.glob HG.out); unfold SetS at cQ2; rw [hq2] at cQ2)))
        | (go_at_call 82; go_loud (((with_reducible refine cQ2.mono ?_); rintro e w9 h9; obtain ⟨rfl, k9⟩ := h9))))
      exact ⟨rfl, keyS_bad HX.out ⟨rfl, K6.kept.trans k9⟩⟩
    | ok r =>
      have HX : Hid (R = .ok (.mk 11 [] [] 0 r [], l', n + 1)) := Lib.hid (by rw [← HR.out, hq]; simp only; rw [hq2])
      go_enter Tryz.func46, Tryz.ntmps46
      go_upto_region 2 with fail
      rw [show (w.setCell ⟨P, 1, none⟩ (.int .i64 ((n : Int) + 1))).alloc (.cells #[.int .i64 0, .string ⟨#[]⟩, .string ⟨#[]⟩, .int .i64 0, .slice none 0 0, .slice none 0 0] 32) = w1 from HW.out]
      clear c0 c1 f1
      obtain ⟨c0, c1⟩ := two_cells K1.out.st.pars
      go_wp2_with (first
        | (go_at_call 75; go_loud (((with_reducible refine cW.mono ?_); rintro e w2 h2; obtain ⟨v2, rfl, hs2, st2, k2⟩ := h2; have K2 := K1.out.next hP k2 st2)))
        | (go_at_call 76; go_loud (((with_reducible refine (cGr _).mono ?_); rintro e w3 ⟨rfl, y3⟩; have K3 := K2.under y3; have cSy1 := cSy w3 (K3.st.glob HG.out).flag)))
        | (go_at_call 77; go_loud (((with_reducible refine cSy1.mono ?_); rintro e w4 ⟨rfl, y4⟩; have K4 := K3.under y4)))
        | (go_at_call 79; go_loud (((with_reducible refine (cNu _).mono ?_); rintro e w5 ⟨rfl, hw5⟩; rw [hw5]; clear hw5; have cQ := word_st K4.st; unfold WordS at cQ; rw [hq] at cQ)))
        | (go_at_call 75; go_loud (((with_reducible refine cQ.mono ?_); rintro e w6 h6; obtain ⟨v6, rfl, hs6, st6, k6⟩ := h6; have K6 := K4.next hP k6 st6; have cQ2 := set_st x P w6 hs6 (K6.st.glob HG.out); unfold SetS at cQ2; rw [hq2] at cQ2)))
        | (go_at_call 82; go_loud (((with_reducible refine cQ2.mono ?_); rintro e w7 h7; obtain ⟨u7, rfl, hr7, ho7, y7⟩ := h7; have hs6 := K6.size; have K7 := K6.under y7; obtain ⟨ra, rc, rfl⟩ := rg_slice hr7; obtain ⟨r0, r1, r2, r3, r4, r5⟩ := ksix_cells K7.res; have fz := Lib.frozen_of_heap K7.res))))
      refine bodyPost_ret (results_cell_row (P := Tryz.prog) rfl _ _ w.heap.size _ _ _ _ rfl (kset_six K7.res _ _ _ _ _ _) Tryz.underlying32 rfl key_size) rfl ?_
      exact K7.done hP (keyC_set hr7 (fun g hg => by have := ho7 g hg; omega) (by decide)) HX.out
set_option maxRecDepth 100000 in
set_option maxHeartbeats 16000000 in
theorem key_rest (d D : Nat) (hD : D ≤ 6) (w0 : World) (hG : SrG w0) (P n : Nat) (v : Value) (t : Wd) (l : List Wd) (w : World) (h : StK w0 P n v (t :: l) w) (hn : n + 1 ≤ 60) (hk : t.kind ≠ 3) (hsys : sysK (greatL t.text) = none) (hnum : ¬ 0 < numsK (greatL t.text)) (hnz : numsK (greatL t.text) = 0) (hno : ∀ u ∈ ([[70, 82, 79, 77], [84, 79], [83, 85, 66, 74, 69, 67, 84], [67, 67], [65, 76, 76], [75, 69, 89, 87, 79, 82, 68], [85, 78, 75, 69, 89, 87, 79, 82, 68], [72, 69, 65, 68, 69, 82], [66, 79, 68, 89], [84, 69, 88, 84], [85, 73, 68], [78, 79, 84], [79, 82]] : List (List UInt8)), greatL t.text ≠ u) :
    Calls Tryz.prog 46 #[.pointer (some ⟨P, 0, none⟩), .int .i64 (D : Int)] w (KeyS w0 P (keyK (d + 1) (t :: l) n) w) := by
  have hr : keyK (d + 1) (t :: l) n = match parseS t.text with | .error e => .error e | .ok r => .ok (.mk 12 [] [] 0 r [], l, n + 1) := by
    rw [keyK_cons, if_neg (by omega), if_neg hk]
    unfold plainK
    rw [hsys]
    simp only
    rw [if_neg hnum]
    unfold moreK
    rw [if_neg (by
      rintro (q | q | q | q)
      · exact hno _ (by decide) q
      · exact hno _ (by decide) q
      · exact hno _ (by decide) q
      · exact hno _ (by decide) q), if_neg (hno [65, 76, 76] (by decide)), if_neg (hno [75, 69, 89, 87, 79, 82, 68] (by decide)), if_neg (hno [85, 78, 75, 69, 89, 87, 79, 82, 68] (by decide)), if_neg (hno [72, 69, 65, 68, 69, 82] (by decide)), if_neg (hno [66, 79, 68, 89] (by decide)), if_neg (hno [84, 69, 88, 84] (by decide)), if_neg (hno [85, 73, 68] (by decide)), if_neg (hno [78, 79, 84] (by decide)), if_neg (hno [79, 82] (by decide))]
    cases parseS t.text <;> rfl
  obtain ⟨R, hR⟩ : ∃ R, keyK (d + 1) (t :: l) n = R := ⟨_, rfl⟩
  rw [hR]
  have HR := Lib.hid (hr.symm.trans hR)
  obtain ⟨a, c, rfl, -, -⟩ := h.words.val
  obtain ⟨g, off, va, vc, rfl, -, hc1, hc2, hg, x0, -, -, ht, -, -⟩ := h.words.cons
  have hP := h.pars.lt
  have hB := h.low
  have hgP : g ≠ P := by omega
  have hK1 := keyB_at h
  obtain ⟨c0, c1⟩ := two_cells h.pars
  have f1 := Lib.frozen_of_heap h.pars 1
  have h6z : decide ((6 : Int) < (D : Int)) = false := decide_eq_false (by omega)
  have h60z : decide ((60 : Int) < (n : Int) + 1) = false := decide_eq_false (by omega)
  have hkd : decide (t.kind = 3) = false := decide_eq_false hk
  have hkb : (t.kind == 3) = false := by rw [beq_eq_false_iff_ne]; exact hk
  obtain ⟨w1, hw1⟩ : ∃ w1, keyB w P n = w1 := ⟨_, rfl⟩
  rw [hw1] at hK1
  have y0 : ∀ j, j < w0.heap.size → w1.heap[j]? = w.heap[j]? := fun j hj => hK1.kept.block j (by omega) (by omega)
  have d0 := (World.cell?_of_block (w := w) (a := ⟨g, off, none⟩) (y0 g hg)).trans x0
  have K1 := Lib.hid hK1
  have HW := Lib.hid hw1
  have HG := Lib.hid hG
  have HT := Lib.hid ht
  have hgl : (greatL t.text).length ≤ 2000000 := by unfold greatL; rw [List.length_map]; exact ht
  have cW := word_st hK1.st
  unfold WordS at cW
  rw [show wordK (t :: l) = .ok (t.text, l) by rw [wordK, if_neg hk]] at cW
  have cGr := fun W => great_l t.text W ht
  have cSy := fun W hW => ofSystem_any (greatL t.text) W hgl hW
  have cNu := fun W => ofNumber_any (greatL t.text) W
  have cSy : ∀ W, FlagG W → Calls Tryz.prog 77 #[.string ⟨(greatL t.text).toArray⟩] W fun e w' => e = .returned (.tuple #[.string ⟨#[]⟩, .bool false, .bool false]) ∧ Below W.heap.size W w' := fun W hW => by
    have := cSy W hW
    rw [hsys] at this
    exact this
  rw [hnz] at cNu
  have n0 : (greatL t.text == [70, 82, 79, 77]) = false := by rw [beq_eq_false_iff_ne]; exact hno _ (by decide)
  have n1 : (greatL t.text == [84, 79]) = false := by rw [beq_eq_false_iff_ne]; exact hno _ (by decide)
  have n2 : (greatL t.text == [83, 85, 66, 74, 69, 67, 84]) = false := by rw [beq_eq_false_iff_ne]; exact hno _ (by decide)
  have n3 : (greatL t.text == [67, 67]) = false := by rw [beq_eq_false_iff_ne]; exact hno _ (by decide)
  have n4 : (greatL t.text == [65, 76, 76]) = false := by rw [beq_eq_false_iff_ne]; exact hno _ (by decide)
  have n5 : (greatL t.text == [75, 69, 89, 87, 79, 82, 68]) = false := by rw [beq_eq_false_iff_ne]; exact hno _ (by decide)
  have n6 : (greatL t.text == [85, 78, 75, 69, 89, 87, 79, 82, 68]) = false := by rw [beq_eq_false_iff_ne]; exact hno _ (by decide)
  have n7 : (greatL t.text == [72, 69, 65, 68, 69, 82]) = false := by rw [beq_eq_false_iff_ne]; exact hno _ (by decide)
  have n8 : (greatL t.text == [66, 79, 68, 89]) = false := by rw [beq_eq_false_iff_ne]; exact hno _ (by decide)
  have n9 : (greatL t.text == [84, 69, 88, 84]) = false := by rw [beq_eq_false_iff_ne]; exact hno _ (by decide)
  have n10 : (greatL t.text == [85, 73, 68]) = false := by rw [beq_eq_false_iff_ne]; exact hno _ (by decide)
  have n11 : (greatL t.text == [78, 79, 84]) = false := by rw [beq_eq_false_iff_ne]; exact hno _ (by decide)
  have n12 : (greatL t.text == [79, 82]) = false := by rw [beq_eq_false_iff_ne]; exact hno _ (by decide)
  clear hsys hnum hnz hno
  generalize greatL t.text = G at cGr cSy cNu n0 n1 n2 n3 n4 n5 n6 n7 n8 n9 n10 n11 n12
  clear h hK1 hw1 x0 y0 hr hR hk hG ht hgl
  cases hq2 : parseS t.text with
  | error E =>
    have HX : Hid (R = .error E) := Lib.hid (by rw [← HR.out, hq2])
    go_enter Tryz.func46, Tryz.ntmps46
    go_upto_region 2 with fail
    rw [show (w.setCell ⟨P, 1, none⟩ (.int .i64 ((n : Int) + 1))).alloc (.cells #[.int .i64 0, .string ⟨#[]⟩, .string ⟨#[]⟩, .int .i64 0, .slice none 0 0, .slice none 0 0] 32) = w1 from HW.out]
    clear c0 c1 f1
    obtain ⟨c0, c1⟩ := two_cells K1.out.st.pars
    go_wp2_with (first
      | (go_at_call 75; go_loud (((with_reducible refine cW.mono ?_); rintro e w2 h2; obtain ⟨v2, rfl, hs2, st2, k2⟩ := h2; have K2 := K1.out.next hP k2 st2)))
      | (go_at_call 76; go_loud (((with_reducible refine (cGr _).mono ?_); rintro e w3 ⟨rfl, y3⟩; have K3 := K2.under y3; have cSy1 := cSy w3 (K3.st.glob HG.out).flag)))
      | (go_at_call 77; go_loud (((with_reducible refine cSy1.mono ?_); rintro e w4 ⟨rfl, y4⟩; have K4 := K3.under y4)))
      | (go_at_call 79; go_loud (((with_reducible refine (cNu _).mono ?_); rintro e w5 ⟨rfl, hw5⟩; rw [hw5]; clear hw5; have cQ2 := set_st t.text P w4 HT.out (K4.st.glob HG.out); unfold SetS at cQ2; rw [hq2] at cQ2)))
      | (go_at_call 82; go_loud (((with_reducible refine cQ2.mono ?_); rintro e w9 h9; obtain ⟨rfl, k9⟩ := h9))))
    exact ⟨rfl, keyS_bad HX.out ⟨rfl, K4.kept.trans k9⟩⟩
  | ok r =>
    have HX : Hid (R = .ok (.mk 12 [] [] 0 r [], l, n + 1)) := Lib.hid (by rw [← HR.out, hq2])
    go_enter Tryz.func46, Tryz.ntmps46
    go_upto_region 2 with fail
    rw [show (w.setCell ⟨P, 1, none⟩ (.int .i64 ((n : Int) + 1))).alloc (.cells #[.int .i64 0, .string ⟨#[]⟩, .string ⟨#[]⟩, .int .i64 0, .slice none 0 0, .slice none 0 0] 32) = w1 from HW.out]
    clear c0 c1 f1
    obtain ⟨c0, c1⟩ := two_cells K1.out.st.pars
    go_wp2_with (first
      | (go_at_call 75; go_loud (((with_reducible refine cW.mono ?_); rintro e w2 h2; obtain ⟨v2, rfl, hs2, st2, k2⟩ := h2; have K2 := K1.out.next hP k2 st2)))
      | (go_at_call 76; go_loud (((with_reducible refine (cGr _).mono ?_); rintro e w3 ⟨rfl, y3⟩; have K3 := K2.under y3; have cSy1 := cSy w3 (K3.st.glob HG.out).flag)))
      | (go_at_call 77; go_loud (((with_reducible refine cSy1.mono ?_); rintro e w4 ⟨rfl, y4⟩; have K4 := K3.under y4)))
      | (go_at_call 79; go_loud (((with_reducible refine (cNu _).mono ?_); rintro e w5 ⟨rfl, hw5⟩; rw [hw5]; clear hw5; have cQ2 := set_st t.text P w4 HT.out (K4.st.glob HG.out); unfold SetS at cQ2; rw [hq2] at cQ2)))
      | (go_at_call 82; go_loud (((with_reducible refine cQ2.mono ?_); rintro e w7 h7; obtain ⟨u7, rfl, hr7, ho7, y7⟩ := h7; have hs6 := K4.size; have K7 := K4.under y7; obtain ⟨ra, rc, rfl⟩ := rg_slice hr7; obtain ⟨r0, r1, r2, r3, r4, r5⟩ := ksix_cells K7.res; have fz := Lib.frozen_of_heap K7.res))))
    refine bodyPost_ret (results_cell_row (P := Tryz.prog) rfl _ _ w.heap.size _ _ _ _ rfl (kset_six K7.res _ _ _ _ _ _) Tryz.underlying32 rfl key_size) rfl ?_
    exact K7.done hP (keyC_set hr7 (fun g hg => by have := ho7 g hg; omega) (by decide)) HX.out
end Go.Proofs.YtcahhnjponeeeaaGreatDoor
namespace Go.Proofs.YtcahhnjponeeeaaGreatDoor
open Go.RowKit Go.Shelf Go.Sort
set_option linter.unusedSimpArgs false
set_option maxRecDepth 100000 in
set_option maxHeartbeats 16000000 in
theorem key_list (d D : Nat) (hD : D ≤ 6) (w0 : World)
    (IH : ∀ (P n : Nat) (v : Value) (l : List Wd) (w : World), n ≤ 60 → StK w0 P n v l w → Calls Tryz.prog 16 #[.pointer (some ⟨P, 0, none⟩), .int .i64 ((D : Int) + 1)] w (KeyS w0 P (keysE (keysK (keyK d) l n)) w))
    (P n : Nat) (v : Value) (t : Wd) (l : List Wd) (w : World) (h : StK w0 P n v (t :: l) w) (hn : n + 1 ≤ 60) (hk : t.kind = 3) :
    Calls Tryz.prog 46 #[.pointer (some ⟨P, 0, none⟩), .int .i64 (D : Int)] w (KeyS w0 P (keyK (d + 1) (t :: l) n) w) := by
  have hr : keyK (d + 1) (t :: l) n = match keysK (keyK d) t.list (n + 1) with | .error e => .error e | .ok (k, n') => .ok (k, l, n') := by
    rw [keyK_cons, if_neg (by omega), if_pos hk]
    cases keysK (keyK d) t.list (n + 1) <;> rfl
  obtain ⟨R, hR⟩ : ∃ R, keyK (d + 1) (t :: l) n = R := ⟨_, rfl⟩
  rw [hR]
  have HR := Lib.hid (hr.symm.trans hR)
  obtain ⟨a, c, rfl, -, -⟩ := h.words.val
  obtain ⟨g, off, va, vc, rfl, -, hc1, hc2, hg, x0, x1, x2, -, hl1, hl2⟩ := h.words.cons
  rw [hk] at x0
  have hP := h.pars.lt
  have hB := h.low
  have hgP : g ≠ P := by omega
  have hK1 := keyB_at h
  have hlen : (t :: l).length = l.length + 1 := rfl
  obtain ⟨c0, c1⟩ := two_cells h.pars
  have f1 := Lib.frozen_of_heap h.pars 1
  have h6z : decide ((6 : Int) < (D : Int)) = false := decide_eq_false (by omega)
  have h60z : decide ((60 : Int) < (n : Int) + 1) = false := decide_eq_false (by omega)
  obtain ⟨w1, hw1⟩ : ∃ w1, keyB w P n = w1 := ⟨_, rfl⟩
  rw [hw1] at hK1
  have y0 : ∀ j, j < w0.heap.size → w1.heap[j]? = w.heap[j]? := fun j hj => hK1.kept.block j (by omega) (by omega)
  have d0 := (World.cell?_of_block (w := w) (a := ⟨g, off, none⟩) (y0 g hg)).trans x0
  have d2 := (World.cell?_of_block (w := w) (a := ⟨g, off + 2, none⟩) (y0 g hg)).trans x2
  have hl1 := hl1.keep y0
  have hl2 := hl2.keep y0
  have K1 := Lib.hid hK1
  have HW := Lib.hid hw1
  have HL1 := Lib.hid hl1
  have HL2 := Lib.hid hl2
  have HIH := Lib.hid IH
  clear h hK1 hw1 x0 x1 x2 y0 hr hR IH hk
  rw [hlen] at *
  go_enter Tryz.func46, Tryz.ntmps46
  go_upto_region 2 with fail
  rw [show (w.setCell ⟨P, 1, none⟩ (.int .i64 ((n : Int) + 1))).alloc (.cells #[.int .i64 0, .string ⟨#[]⟩, .string ⟨#[]⟩, .int .i64 0, .slice none 0 0, .slice none 0 0] 32) = w1 from HW.out]
  clear c0 c1 f1
  obtain ⟨c0, c1⟩ := two_cells K1.out.st.pars
  have f0 := Lib.frozen_of_heap K1.out.st.pars
  have fin : ∀ (v' : Value) (w2 : World), w2 = w1.setCell ⟨P, 0, none⟩ v' → ReadsK w1 w0.heap.size v' l → KeyW w0 w P (n + 1) v' l w2 := fun v' w2 e hr => by
    subst e
    have hk : Kept (fun k => k = P) w1 (w1.setCell ⟨P, 0, none⟩ v') := (Kept.refl _ _).setB _
    exact K1.out.next hP hk (K1.out.st.next hk (set2_0 K1.out.st.pars) (hr.kept hk hB K1.out.st.base.size))
  have hsz1 := K1.out.size
  by_cases hc : c = 1
  · subst hc
    have hl0 : l.length + 1 ≤ 1 := by omega
    go_upto_region 7 with fail
    have K2 := fin _ _ rfl (readsK_none (a := some ⟨g, off, none⟩) (c := 0) hl0 (by decide))
    have hL2 : ReadsK (w1.setCell ⟨P, 0, none⟩ (.slice (some ⟨g, off, none⟩) l.length 0)) w0.heap.size (.slice va t.list.length vc) t.list := HL1.out.keep fun j hj => Below.heap_setCell _ _ _ _ (show j ≠ P by omega)
    have hl00 : l.length = 0 := by omega
    rw [hl00] at K2 hL2
    generalize w1.setCell ⟨P, 0, none⟩ (.slice (some ⟨g, off, none⟩) 0 0) = w2 at K2 hL2 ⊢
    clear c0 c1 f0 fin
    obtain ⟨c0, c1⟩ := two_cells K2.st.pars
    have f1 := Lib.frozen_of_heap K2.st.pars 1
    have hz3 := World.heap_alloc_new w2 (.cells #[.slice va t.list.length vc, .int .i64 ((n + 1 : Nat) : Int)] 63)
    have hs3 := alloc_size w2 (.cells #[.slice va t.list.length vc, .int .i64 ((n + 1 : Nat) : Int)] 63)
    have hsz2 := K2.st.base.size
    have hsz3 := K2.size
    have hb3 := (Below.refl w2.heap.size w2).alloc (Nat.le_refl _) (.cells #[.slice va t.list.length vc, .int .i64 ((n + 1 : Nat) : Int)] 63)
    obtain ⟨w3, hw3⟩ : ∃ w3, w2.alloc (.cells #[.slice va t.list.length vc, .int .i64 ((n + 1 : Nat) : Int)] 63) = w3 := ⟨_, rfl⟩
    rw [hw3] at hz3 hs3 hb3
    have stQ : StK w0 w2.heap.size (n + 1) (.slice va t.list.length vc) t.list w3 := ⟨K2.st.base.trans (hb3.mono hsz2), hsz2, hz3, hL2.under (hb3.mono hsz2)⟩
    have cK := HIH.out w2.heap.size (n + 1) _ t.list w3 hn stQ
    have HW3 := Lib.hid hw3
    have HK2 := Lib.hid K2
    clear hw3 stQ HIH HL1 HL2 K1 HW K2
    unfold KeyS keysE at cK
    cases hq : keysK (keyK d) t.list (n + 1) with
    | error E =>
      rw [hq] at cK
      have HX : Hid (R = .error E) := Lib.hid (by rw [← HR.out, hq])
      clear HR hq
      go_upto_region 8 with fail
      rw [show w2.alloc (.cells #[.slice va t.list.length vc, .int .i64 ((n : Int) + 1)] 63) = w3 from HW3.out]
      go_wp2_with ((go_at_call 16; go_loud (((with_reducible refine cK.mono ?_); rintro e w4 h4; obtain ⟨rfl, hk4⟩ := h4))))
      have y4 : Below w2.heap.size w3 w4 := hk4.below (by omega) (fun k e => by have : k = w2.heap.size := e; omega)
      exact ⟨rfl, keyS_bad HX.out ⟨rfl, kept_of HK2.out.kept (hb3.trans y4)⟩⟩
    | ok x =>
      obtain ⟨k, n'⟩ := x
      rw [hq] at cK
      have HX : Hid (R = .ok (k, l, n')) := Lib.hid (by rw [← HR.out, hq])
      clear HR hq
      go_upto_region 8 with fail
      rw [show w2.alloc (.cells #[.slice va t.list.length vc, .int .i64 ((n : Int) + 1)] 63) = w3 from HW3.out]
      go_upto_region 9 with ((go_at_call 16; go_loud (((with_reducible refine cK.mono ?_); rintro e w4 h4; obtain ⟨vq, cs, rfl, hc4, st4, hk4⟩ := h4; obtain ⟨code, name, text, kn, set, keys, sa, kb, sc, kcc, rfl⟩ := hc4.six))))
      have hQ3 : w2.heap.size < w3.heap.size := by omega
      have hb4 : Below w2.heap.size w3 w4 := hk4.below (by omega) (fun k e => by have : k = w2.heap.size := e; omega)
      have hz5 := World.heap_alloc_new w4 (.cells #[.int .i64 code, .string ⟨name.toArray⟩, .string ⟨text.toArray⟩, .int .i64 kn, .slice sa set.length sc, .slice kb keys.length kcc] 32)
      have hb5 := (Below.refl w4.heap.size w4).alloc (Nat.le_refl _) (.cells #[.int .i64 code, .string ⟨name.toArray⟩, .string ⟨text.toArray⟩, .int .i64 kn, .slice sa set.length sc, .slice kb keys.length kcc] 32)
      have K5 := (HK2.out.under (hb3.trans hb4)).under hb5
      have q5 := st4.pars.below hb5
      have hs4 := hk4.size
      have hc5 := hc4.keep (ok' := fun j => w3.heap.size ≤ j) hb5.size (fun j _ hj => hb5.block j hj) (fun j hj _ => hj)
      generalize w4.alloc (.cells #[.int .i64 code, .string ⟨name.toArray⟩, .string ⟨text.toArray⟩, .int .i64 kn, .slice sa set.length sc, .slice kb keys.length kcc] 32) = w5 at hz5 K5 q5 hc5 ⊢
      obtain ⟨X, hX⟩ : ∃ X, w4.heap.size = X := ⟨_, rfl⟩
      obtain ⟨Q, hQ⟩ : ∃ Q, w2.heap.size = Q := ⟨_, rfl⟩
      rw [hX] at hz5 ⊢
      rw [hQ] at q5 ⊢
      have hXP : X ≠ P := by omega
      have hQP : Q ≠ P := by omega
      have hRX : w.heap.size ≠ X := by omega
      have hRP : w.heap.size ≠ P := by omega
      have hw35 : w.heap.size < w3.heap.size := by omega
      have hPw3 : P < w3.heap.size := by omega
      clear c0 c1 f1 hz3 hs3 hb3 HW3 HK2 hc4 st4 hk4 hb4 hb5 d0 d2 hsz1 hsz2 hsz3 hs4 hX hQ
      obtain ⟨c0, c1⟩ := two_cells K5.st.pars
      obtain ⟨e0, e1⟩ := two_cells q5
      have f1 := Lib.frozen_of_heap K5.st.pars 1
      go_upto_region 10 with fail
      have K6 := K5.count hP n'
      have hz6 := setCell_same (a := ⟨P, 1, none⟩) (u := .int .i64 (n' : Int)) hz5 hXP
      have hc6 : KeyC (w5.setCell ⟨P, 1, none⟩ (.int .i64 (n' : Int))) (fun j => w.heap.size < j) [.int .i64 code, .string ⟨name.toArray⟩, .string ⟨text.toArray⟩, .int .i64 kn, .slice sa set.length sc, .slice kb keys.length kcc] k := hc5.keep (by rw [set_size]; exact Nat.le_refl _) (fun j hj _ => Below.heap_setCell _ _ _ _ (show j ≠ P by have : w3.heap.size ≤ j := hj; omega)) (fun j hj _ => by have : w3.heap.size ≤ j := hj; omega)
      generalize w5.setCell ⟨P, 1, none⟩ (.int .i64 (n' : Int)) = w6 at K6 hz6 hc6 ⊢
      clear c0 c1 e0 e1 f1 K5 q5 hz5 hc5
      obtain ⟨z0, z1, z2, z3, z4, z5⟩ := ksix_cells hz6
      obtain ⟨r0, r1, r2, r3, r4, r5⟩ := ksix_cells K6.res
      have fz := Lib.frozen_of_heap K6.res
      go_wp2_with fail
      refine bodyPost_ret (results_cell_row (P := Tryz.prog) rfl _ _ w.heap.size _ _ _ _ rfl (kset_six K6.res _ _ _ _ _ _) Tryz.underlying32 rfl key_size) rfl ?_
      exact K6.done hP hc6 HX.out
  · have hcc : c - 1 ≤ 9223372036854775807 := by omega
    go_upto_region 7 with fail
    have K2 := fin _ _ rfl HL2.out
    have hL2 : ReadsK (w1.setCell ⟨P, 0, none⟩ (.slice (some ⟨g, off + 3, none⟩) l.length (c - 1))) w0.heap.size (.slice va t.list.length vc) t.list := HL1.out.keep fun j hj => Below.heap_setCell _ _ _ _ (show j ≠ P by omega)
    generalize w1.setCell ⟨P, 0, none⟩ (.slice (some ⟨g, off + 3, none⟩) l.length (c - 1)) = w2 at K2 hL2 ⊢
    clear c0 c1 f0 fin
    obtain ⟨c0, c1⟩ := two_cells K2.st.pars
    have f1 := Lib.frozen_of_heap K2.st.pars 1
    have hz3 := World.heap_alloc_new w2 (.cells #[.slice va t.list.length vc, .int .i64 ((n + 1 : Nat) : Int)] 63)
    have hs3 := alloc_size w2 (.cells #[.slice va t.list.length vc, .int .i64 ((n + 1 : Nat) : Int)] 63)
    have hsz2 := K2.st.base.size
    have hsz3 := K2.size
    have hb3 := (Below.refl w2.heap.size w2).alloc (Nat.le_refl _) (.cells #[.slice va t.list.length vc, .int .i64 ((n + 1 : Nat) : Int)] 63)
    obtain ⟨w3, hw3⟩ : ∃ w3, w2.alloc (.cells #[.slice va t.list.length vc, .int .i64 ((n + 1 : Nat) : Int)] 63) = w3 := ⟨_, rfl⟩
    rw [hw3] at hz3 hs3 hb3
    have stQ : StK w0 w2.heap.size (n + 1) (.slice va t.list.length vc) t.list w3 := ⟨K2.st.base.trans (hb3.mono hsz2), hsz2, hz3, hL2.under (hb3.mono hsz2)⟩
    have cK := HIH.out w2.heap.size (n + 1) _ t.list w3 hn stQ
    have HW3 := Lib.hid hw3
    have HK2 := Lib.hid K2
    clear hw3 stQ HIH HL1 HL2 K1 HW K2
    unfold KeyS keysE at cK
    cases hq : keysK (keyK d) t.list (n + 1) with
    | error E =>
      rw [hq] at cK
      have HX : Hid (R = .error E) := Lib.hid (by rw [← HR.out, hq])
      clear HR hq
      go_upto_region 8 with fail
      rw [show w2.alloc (.cells #[.slice va t.list.length vc, .int .i64 ((n : Int) + 1)] 63) = w3 from HW3.out]
      go_wp2_with ((go_at_call 16; go_loud (((with_reducible refine cK.mono ?_); rintro e w4 h4; obtain ⟨rfl, hk4⟩ := h4))))
      have y4 : Below w2.heap.size w3 w4 := hk4.below (by omega) (fun k e => by have : k = w2.heap.size := e; omega)
      exact ⟨rfl, keyS_bad HX.out ⟨rfl, kept_of HK2.out.kept (hb3.trans y4)⟩⟩
    | ok x =>
      obtain ⟨k, n'⟩ := x
      rw [hq] at cK
      have HX : Hid (R = .ok (k, l, n')) := Lib.hid (by rw [← HR.out, hq])
      clear HR hq
      go_upto_region 8 with fail
      rw [show w2.alloc (.cells #[.slice va t.list.length vc, .int .i64 ((n : Int) + 1)] 63) = w3 from HW3.out]
      go_upto_region 9 with ((go_at_call 16; go_loud (((with_reducible refine cK.mono ?_); rintro e w4 h4; obtain ⟨vq, cs, rfl, hc4, st4, hk4⟩ := h4; obtain ⟨code, name, text, kn, set, keys, sa, kb, sc, kcc, rfl⟩ := hc4.six))))
      have hQ3 : w2.heap.size < w3.heap.size := by omega
      have hb4 : Below w2.heap.size w3 w4 := hk4.below (by omega) (fun k e => by have : k = w2.heap.size := e; omega)
      have hz5 := World.heap_alloc_new w4 (.cells #[.int .i64 code, .string ⟨name.toArray⟩, .string ⟨text.toArray⟩, .int .i64 kn, .slice sa set.length sc, .slice kb keys.length kcc] 32)
      have hb5 := (Below.refl w4.heap.size w4).alloc (Nat.le_refl _) (.cells #[.int .i64 code, .string ⟨name.toArray⟩, .string ⟨text.toArray⟩, .int .i64 kn, .slice sa set.length sc, .slice kb keys.length kcc] 32)
      have K5 := (HK2.out.under (hb3.trans hb4)).under hb5
      have q5 := st4.pars.below hb5
      have hs4 := hk4.size
      have hc5 := hc4.keep (ok' := fun j => w3.heap.size ≤ j) hb5.size (fun j _ hj => hb5.block j hj) (fun j hj _ => hj)
      generalize w4.alloc (.cells #[.int .i64 code, .string ⟨name.toArray⟩, .string ⟨text.toArray⟩, .int .i64 kn, .slice sa set.length sc, .slice kb keys.length kcc] 32) = w5 at hz5 K5 q5 hc5 ⊢
      obtain ⟨X, hX⟩ : ∃ X, w4.heap.size = X := ⟨_, rfl⟩
      obtain ⟨Q, hQ⟩ : ∃ Q, w2.heap.size = Q := ⟨_, rfl⟩
      rw [hX] at hz5 ⊢
      rw [hQ] at q5 ⊢
      have hXP : X ≠ P := by omega
      have hQP : Q ≠ P := by omega
      have hRX : w.heap.size ≠ X := by omega
      have hRP : w.heap.size ≠ P := by omega
      have hw35 : w.heap.size < w3.heap.size := by omega
      have hPw3 : P < w3.heap.size := by omega
      clear c0 c1 f1 hz3 hs3 hb3 HW3 HK2 hc4 st4 hk4 hb4 hb5 d0 d2 hsz1 hsz2 hsz3 hs4 hX hQ
      obtain ⟨c0, c1⟩ := two_cells K5.st.pars
      obtain ⟨e0, e1⟩ := two_cells q5
      have f1 := Lib.frozen_of_heap K5.st.pars 1
      go_upto_region 10 with fail
      have K6 := K5.count hP n'
      have hz6 := setCell_same (a := ⟨P, 1, none⟩) (u := .int .i64 (n' : Int)) hz5 hXP
      have hc6 : KeyC (w5.setCell ⟨P, 1, none⟩ (.int .i64 (n' : Int))) (fun j => w.heap.size < j) [.int .i64 code, .string ⟨name.toArray⟩, .string ⟨text.toArray⟩, .int .i64 kn, .slice sa set.length sc, .slice kb keys.length kcc] k := hc5.keep (by rw [set_size]; exact Nat.le_refl _) (fun j hj _ => Below.heap_setCell _ _ _ _ (show j ≠ P by have : w3.heap.size ≤ j := hj; omega)) (fun j hj _ => by have : w3.heap.size ≤ j := hj; omega)
      generalize w5.setCell ⟨P, 1, none⟩ (.int .i64 (n' : Int)) = w6 at K6 hz6 hc6 ⊢
      clear c0 c1 e0 e1 f1 K5 q5 hz5 hc5
      obtain ⟨z0, z1, z2, z3, z4, z5⟩ := ksix_cells hz6
      obtain ⟨r0, r1, r2, r3, r4, r5⟩ := ksix_cells K6.res
      have fz := Lib.frozen_of_heap K6.res
      go_wp2_with fail
      refine bodyPost_ret (results_cell_row (P := Tryz.prog) rfl _ _ w.heap.size _ _ _ _ rfl (kset_six K6.res _ _ _ _ _ _) Tryz.underlying32 rfl key_size) rfl ?_
      exact K6.done hP hc6 HX.out
end Go.Proofs.YtcahhnjponeeeaaGreatDoor
namespace Go.Proofs.YtcahhnjponeeeaaGreatDoor
open Go.RowKit Go.Shelf Go.Sort
theorem numsK_cases (s : List UInt8) : numsK s = 0 ∨ (0 < numsK s ∧ numsK s ≠ 13) := by
  unfold numsK
  split
  · exact Or.inr (by decide)
  split
  · exact Or.inr (by decide)
  split
  · exact Or.inr (by decide)
  split
  · exact Or.inr (by decide)
  split
  · exact Or.inr (by decide)
  · exact Or.inl rfl
theorem key_any (w0 : World) (hG : SrG w0) : ∀ (d D : Nat), D + d = 7 → ∀ (P n : Nat) (v : Value) (l : List Wd) (w : World), n ≤ 60 → StK w0 P n v l w → Calls Tryz.prog 46 #[.pointer (some ⟨P, 0, none⟩), .int .i64 (D : Int)] w (KeyS w0 P (keyK d l n) w) := by
  intro d
  induction d with
  | zero =>
    intro D hD P n v l w hn h
    rw [keyK_zero]
    exact key_limit D (by omega) w0 P n v l w h hn (Or.inl (by omega))
  | succ d ih =>
    intro D hD P n v l w hn h
    have IH : ∀ (P n : Nat) (v : Value) (l : List Wd) (w : World), n ≤ 60 → StK w0 P n v l w → Calls Tryz.prog 46 #[.pointer (some ⟨P, 0, none⟩), .int .i64 ((D : Int) + 1)] w (KeyS w0 P (keyK d l n) w) := fun P n v l w hn h => ih (D + 1) (by omega) P n v l w hn h
    by_cases h60 : 60 < n + 1
    · have e : keyK (d + 1) l n = .error 4 := by
        cases l with
        | nil => rw [keyK_nil, if_pos h60]
        | cons t l => rw [keyK_cons, if_pos h60]
      rw [e]
      exact key_limit D (by omega) w0 P n v l w h hn (Or.inr h60)
    · cases l with
      | nil =>
        rw [keyK_nil, if_neg h60]
        exact key_none D (by omega) w0 P n v w h (by omega)
      | cons t l =>
        by_cases hk : t.kind = 3
        · exact key_list d D (by omega) w0 (fun P n v l w hn h => keys_any d (D + 1) (by omega) w0 IH P n v l w hn h) P n v t l w h (by omega) hk
        · cases hs : sysK (greatL t.text) with
          | some x =>
            obtain ⟨nm, un⟩ := x
            cases un with
            | true => exact key_sys_true d D (by omega) w0 hG P n v t l w h (by omega) hk nm hs
            | false => exact key_sys_false d D (by omega) w0 hG P n v t l w h (by omega) hk nm hs
          | none =>
            rcases numsK_cases (greatL t.text) with h0 | ⟨h0, h13⟩
            · by_cases h1 : greatL t.text = [70, 82, 79, 77]
              · exact key_from d D (by omega) w0 hG P n v t l w h (by omega) hk h1
              by_cases h2 : greatL t.text = [84, 79]
              · exact key_to d D (by omega) w0 hG P n v t l w h (by omega) hk h2
              by_cases h3 : greatL t.text = [83, 85, 66, 74, 69, 67, 84]
              · exact key_subject d D (by omega) w0 hG P n v t l w h (by omega) hk h3
              by_cases h4 : greatL t.text = [67, 67]
              · exact key_cc d D (by omega) w0 hG P n v t l w h (by omega) hk h4
              by_cases h5 : greatL t.text = [65, 76, 76]
              · exact key_all d D (by omega) w0 hG P n v t l w h (by omega) hk h5
              by_cases h6 : greatL t.text = [75, 69, 89, 87, 79, 82, 68]
              · exact key_keyword d D (by omega) w0 hG P n v t l w h (by omega) hk h6
              by_cases h7 : greatL t.text = [85, 78, 75, 69, 89, 87, 79, 82, 68]
              · exact key_unkeyword d D (by omega) w0 hG P n v t l w h (by omega) hk h7
              by_cases h8 : greatL t.text = [72, 69, 65, 68, 69, 82]
              · exact key_header d D (by omega) w0 hG P n v t l w h (by omega) hk h8
              by_cases h9 : greatL t.text = [66, 79, 68, 89]
              · exact key_body d D (by omega) w0 hG P n v t l w h (by omega) hk h9
              by_cases h10 : greatL t.text = [84, 69, 88, 84]
              · exact key_text d D (by omega) w0 hG P n v t l w h (by omega) hk h10
              by_cases h11 : greatL t.text = [85, 73, 68]
              · exact key_uid d D (by omega) w0 hG P n v t l w h (by omega) hk h11
              by_cases h12 : greatL t.text = [78, 79, 84]
              · exact key_not d D (by omega) w0 hG IH P n v t l w h (by omega) hk h12
              by_cases h13 : greatL t.text = [79, 82]
              · exact key_or d D (by omega) w0 hG IH P n v t l w h (by omega) hk h13
              refine key_rest d D (by omega) w0 hG P n v t l w h (by omega) hk hs (by omega) h0 (fun u hu e => ?_)
              simp only [List.mem_cons, List.not_mem_nil, or_false] at hu
              rcases hu with rfl | rfl | rfl | rfl | rfl | rfl | rfl | rfl | rfl | rfl | rfl | rfl | rfl
              · exact h1 e
              · exact h2 e
              · exact h3 e
              · exact h4 e
              · exact h5 e
              · exact h6 e
              · exact h7 e
              · exact h8 e
              · exact h9 e
              · exact h10 e
              · exact h11 e
              · exact h12 e
              · exact h13 e
            · exact key_num d D (by omega) w0 hG P n v t l w h (by omega) hk hs h0 h13
theorem keys_all (w0 : World) (hG : SrG w0) (P n : Nat) (v : Value) (l : List Wd) (w : World) (hn : n ≤ 60) (h : StK w0 P n v l w) : Calls Tryz.prog 16 #[.pointer (some ⟨P, 0, none⟩), .int .i64 0] w (KeyS w0 P (keysE (keysK (keyK 7) l n)) w) :=
  keys_any 7 0 (by decide) w0 (fun P n v l w hn h => key_any w0 hG 7 0 rfl P n v l w hn h) P n v l w hn h
end Go.Proofs.YtcahhnjponeeeaaGreatDoor
namespace Go.Proofs.YtcahhnjponeeeaaGreatDoor
open Go.RowKit Go.Shelf Go.Sort
set_option linter.unusedSimpArgs false
theorem kwp_tmps {P : Program} {c : Code} {t t' : Array Value} {d : List Deferred} {w : World} {Q : Exit → Act → World → Prop} (e : t = t') (h : c.wp P Q { tmps := t', defers := d } w) : c.wp P Q { tmps := t, defers := d } w := e ▸ h
theorem kwp_hide {P : Program} {c : Code} {a : Act} {w : World} {Q : Exit → Act → World → Prop} (h : ∀ Q' : Exit → Act → World → Prop, (∀ e a' w', Q e a' w' → Q' e a' w') → c.wp P Q' a w) : c.wp P Q a w := h Q (fun _ _ _ h => h)
set_option maxRecDepth 100000 in
set_option maxHeartbeats 4000000 in
/-- what Parse defers, where nothing was thrown -/
theorem kcatch_idle (p q : Addr) (w : World) :
    CallsD Tryz.prog 15 #[.pointer (some p), .pointer (some q)] .returning w fun e u' w' => e = .returned (.tuple #[]) ∧ u' = .returning ∧ w' = w := by
  refine callsD_of_wpS Tryz.func15 rfl fun c₀ cs hu => ?_
  apply wpS_seq
  apply wpS_region
  simp [wpOpsS, go_sem, recoverD, hu, Tryz.ntmps15, Exit.thenS]
  apply wpS_seq
  apply wpS_region
  simp [wpOpsS, go_sem, Exit.thenS]
  refine wpS_cond (t := false) (by simp [Act.eval, Array.replicate]) ?_
  simp only [Bool.false_eq_true, if_false]
  refine wpS_of_wp (wp_skip ?_)
  cases c₀
  simp_all [bodyPostS, results, Tryz.results15]
theorem kresults_none {P : Program} {fn : Func} (h : fn.results = #[]) (tmps : Array Value) (w : World) : (results fn tmps).run P w = .ok (.tuple #[]) w := by
  simp [results, h, go_sem]
theorem six_kept' {S : Nat → Prop} {w W : World} (h : Kept S w W) (U : Nat) (hU : S U) (x0 x1 x2 x3 x4 x5 : Value) : Kept S w ((((((W.setCell ⟨U, 0, none⟩ x0).setCell ⟨U, 1, none⟩ x1).setCell ⟨U, 2, none⟩ x2).setCell ⟨U, 3, none⟩ x3).setCell ⟨U, 4, none⟩ x4).setCell ⟨U, 5, none⟩ x5) :=
  (((((h.set (p := ⟨U, 0, none⟩) (fun _ => hU) _).set (p := ⟨U, 1, none⟩) (fun _ => hU) _).set (p := ⟨U, 2, none⟩) (fun _ => hU) _).set (p := ⟨U, 3, none⟩) (fun _ => hU) _).set (p := ⟨U, 4, none⟩) (fun _ => hU) _).set (p := ⟨U, 5, none⟩) (fun _ => hU) _
set_option maxRecDepth 100000 in
set_option maxHeartbeats 8000000 in
/-- what Parse defers, where an error was thrown -/
theorem kcatch_bad (C E : Nat) (n : Int) (x0 x1 x2 x3 x4 x5 x6 : Value) (older : List PanicEntry) (w : World) (hC : w.heap[C]? = some (.cells #[x0, x1, x2, x3, x4, x5] 32 (0, 0))) (hE : w.heap[E]? = some (.cells #[x6] 37 (0, 0))) :
    CallsD Tryz.prog 15 #[.pointer (some ⟨C, 0, none⟩), .pointer (some ⟨E, 0, none⟩)] (.panicking ({ v := .iface 59 (.agg #[.int .i64 n]), recovered := false } :: older)) w fun e u' w' =>
      e = .returned (.tuple #[]) ∧ u' = .panicking ({ v := .iface 59 (.agg #[.int .i64 n]), recovered := true } :: older) ∧ Kept (fun k => k = C ∨ k = E) w w' ∧ w'.heap[C]? = some (.cells zero6 32 (0, 0)) ∧ w'.heap[E]? = some (.cells #[.iface 33 (.int .i64 n)] 37 (0, 0)) := by
  obtain ⟨c0, c1, c2, c3, c4, c5⟩ := ksix_cells hC
  have e0 : w.cell? ⟨E, 0, none⟩ = some x6 := by rw [Lib.cell_of_heap hE]; rfl
  have fC := Lib.frozen_of_heap hC
  have fE := Lib.frozen_of_heap hE 0
  have ta : ∀ W : World, (Instr.typeAssert (.iface 59 (.agg #[.int .i64 n])) 20 59 true).run Tryz.prog W = .ok (.tuple #[.agg #[.int .i64 n], .bool true]) W := fun W => by kernel_rfl
  refine callsD_of_wpS Tryz.func15 rfl fun c₀ cs hu => ?_
  apply wpS_seq
  apply wpS_region
  simp [wpOpsS, go_sem, recoverD, hu, Tryz.ntmps15, Exit.thenS]
  refine wpS_of_wp ?_
  refine kwp_hide fun Q hQ => ?_
  refine kwp_tmps (t' := #[.pointer (some ⟨C, 0, none⟩), .pointer (some ⟨E, 0, none⟩), .iface 59 (.agg #[.int .i64 n]), undef, undef, .iface 59 (.agg #[.int .i64 n]), undef, undef, undef, undef, undef, undef, undef, undef, undef, undef, undef, undef, undef, undef]) (by kernel_rfl) ?_
  have HQ := Lib.hid hQ
  clear hQ hu
  go_upto_region 5 with fail
  have hC1 := alloc_same (x := .cells #[.int .i64 n] 59) hC
  have hE1 := alloc_same (x := .cells #[.int .i64 n] 59) hE
  have hX1 := World.heap_alloc_new w (.cells #[.int .i64 n] 59)
  have hK1 : Kept (fun k => k = C ∨ k = E) w (w.alloc (.cells #[.int .i64 n] 59)) := (Kept.refl _ _).alloc _
  have hCX : C ≠ w.heap.size := Nat.ne_of_lt (Array.getElem?_eq_some_iff.1 hC).1
  have hEX : E ≠ w.heap.size := Nat.ne_of_lt (Array.getElem?_eq_some_iff.1 hE).1
  have hCE : C ≠ E := by
    rintro rfl
    rw [hC] at hE
    cases hE
  generalize w.alloc (.cells #[.int .i64 n] 59) = w1 at hC1 hE1 hX1 hK1 ⊢
  generalize w.heap.size = X at hX1 hCX hEX ⊢
  clear c0 c1 c2 c3 c4 c5 e0 fC fE ta
  obtain ⟨c0, c1, c2, c3, c4, c5⟩ := ksix_cells hC1
  have e0 : w1.cell? ⟨E, 0, none⟩ = some x6 := by rw [Lib.cell_of_heap hE1]; rfl
  have d0 : w1.cell? ⟨X, 0, none⟩ = some (.int .i64 n) := by rw [Lib.cell_of_heap hX1]; rfl
  have fC := Lib.frozen_of_heap hC1
  have fE := Lib.frozen_of_heap hE1 0
  have hXC := Ne.symm hCX
  have hXE := Ne.symm hEX
  have hEC := Ne.symm hCE
  go_region_held3 (fun W => W.cell? ⟨X, 0, none⟩ = some (.int .i64 n)) (go_keep) (fail)
  all_goals
    have kF := ((six_kept' hK1 C (Or.inl rfl) (.int .i64 0) (.string ⟨#[]⟩) (.string ⟨#[]⟩) (.int .i64 0) (.slice none 0 0) (.slice none 0 0))).set (p := ⟨E, 0, none⟩) (fun _ => Or.inr rfl) (.iface 33 (.int .i64 n))
    have hC2 := kset_six hC1 (.int .i64 0) (.string ⟨#[]⟩) (.string ⟨#[]⟩) (.int .i64 0) (.slice none 0 0) (.slice none 0 0)
    have hC3 := setCell_same (a := ⟨E, 0, none⟩) (u := .iface 33 (.int .i64 n)) hC2 hCE
    have hE2 := (ksix_heap w1 (U := C) (.int .i64 0) (.string ⟨#[]⟩) (.string ⟨#[]⟩) (.int .i64 0) (.slice none 0 0) (.slice none 0 0) E hEC).trans hE1
    have hE3 := setCell_one (u := .iface 33 (.int .i64 n)) hE2
    clear hC2 hE2
    generalize ((((((w1.setCell ⟨C, 0, none⟩ (.int .i64 0)).setCell ⟨C, 1, none⟩ (.string ⟨#[]⟩)).setCell ⟨C, 2, none⟩ (.string ⟨#[]⟩)).setCell ⟨C, 3, none⟩ (.int .i64 0)).setCell ⟨C, 4, none⟩ (.slice none 0 0)).setCell ⟨C, 5, none⟩ (.slice none 0 0)).setCell ⟨E, 0, none⟩ (.iface 33 (.int .i64 n)) = w9 at *
    have kG := kF.trans (kept_below (Below.refl _ w9).drew)
    refine HQ.out _ _ _ ?_
    exact ⟨rfl, _, rfl, _, kresults_none rfl _ _, rfl, rfl, kG, hC3, hE3⟩
theorem kresults_two {P : Program} {fn : Func} {p q : Tmp} {ty u : TypeId} (h : fn.results = #[.cell p ty, .cell q u]) (tmps : Array Value) (w : World) (g k : Nat) (T : TypeId) (cs : Array Value) (fr : Nat × Nat) (d : TypeDesc) (x : Value)
    (hp : tmps.getD p undef = .pointer (some ⟨g, 0, none⟩)) (hg : w.heap[g]? = some (.cells cs T fr))
    (hu : P.underlying ty = some d) (hd : (match d with | .struct _ | .array _ _ => true | _ => false) = true) (hi : (P.info? ty).map (·.size) = some cs.size)
    (hq : tmps.getD q undef = .pointer (some ⟨k, 0, none⟩)) (hx : (loadVar u ⟨k, 0, none⟩).run P w = .ok x w) :
    (results fn tmps).run P w = .ok (.tuple #[.agg cs, x]) w := by
  have hp' : tmps[p]?.getD undef = .pointer (some ⟨g, 0, none⟩) := by simpa using hp
  have hq' : tmps[q]?.getD undef = .pointer (some ⟨k, 0, none⟩) := by simpa using hq
  simp [results, h, hp', hq', asAddr, run_loadVar_row w g T ty cs fr d hg hu hd hi, hx]
theorem kload_err (w : World) (E : Nat) (x : Value) (h : w.cell? ⟨E, 0, none⟩ = some x) : (loadVar 37 ⟨E, 0, none⟩).run Tryz.prog w = .ok x w := by
  simp [go_sem, h]
/-- what Parse brings -/
def ParsedK (l : List Wd) (w : World) (e : Ending) (w' : World) : Prop := match parseK l with
  | .error E => e = .returned (.tuple #[.agg zero6, .iface 33 (.int .i64 (E : Int))]) ∧ Below w.heap.size w w'
  | .ok k => ∃ cs, e = .returned (.tuple #[.agg cs.toArray, .nilIface]) ∧ KeyC w' (fun j => w.heap.size ≤ j) cs k ∧ Below w.heap.size w w'
/-- at the door, an error having been thrown -/
theorem kdoor_bad {tmps : Array Value} {l : List Wd} {w w4 : World} {C E : Nat} {x0 x1 x2 x3 x4 x5 x6 : Value} (h2 : tmps.getD 2 undef = .pointer (some ⟨C, 0, none⟩)) (h3 : tmps.getD 3 undef = .pointer (some ⟨C + 1, 0, none⟩)) (hpf : parseK l = .error E) (hC : w4.heap[C]? = some (.cells #[x0, x1, x2, x3, x4, x5] 32 (0, 0))) (hE : w4.heap[C + 1]? = some (.cells #[x6] 37 (0, 0)))
    (hlow : Below w.heap.size w w4) (hCw : w.heap.size ≤ C) :
    bodyPostD Tryz.prog Tryz.f7 (ParsedK l w) (Exit.panic [{ v := .iface 59 (.agg #[.int .i64 (E : Int)]), recovered := false }]) { tmps := tmps, defers := [{ target := .fn (.func 15) #[.pointer (some ⟨C, 0, none⟩), .pointer (some ⟨C + 1, 0, none⟩)], args := #[] }] } w4 := by
  show Leaves _ _ _ _ _ _ _
  refine leaves_cons (f := 15) (args := #[.pointer (some ⟨C, 0, none⟩), .pointer (some ⟨C + 1, 0, none⟩)]) (by simp) (by simp [go_sem]) ?_
  refine (kcatch_bad C (C + 1) (E : Int) x0 x1 x2 x3 x4 x5 x6 [] w4 hC hE).mono ?_
  rintro e u' w5 ⟨rfl, rfl, hk, hC5, hE5⟩
  show Leaves _ _ _ _ [] .returning _
  refine ⟨_, kresults_two rfl tmps w5 C (C + 1) _ _ _ _ _ h2 hC5 Tryz.underlying32 rfl key_size h3 (kload_err w5 (C + 1) _ (by rw [Lib.cell_of_heap hE5]; rfl)), ?_⟩
  unfold ParsedK
  rw [hpf]
  exact ⟨rfl, hlow.trans (hk.below hlow.size (fun k h => by rcases h with rfl | rfl <;> omega))⟩
/-- at the door, a key having been read -/
theorem kdoor_good {tmps : Array Value} {l : List Wd} {w w4 : World} {C : Nat} {a b c d e f : Value} {k : KeyP} (h2 : tmps.getD 2 undef = .pointer (some ⟨C, 0, none⟩)) (h3 : tmps.getD 3 undef = .pointer (some ⟨C + 1, 0, none⟩)) (hpf : parseK l = .ok k) (hC : w4.heap[C]? = some (.cells #[a, b, c, d, e, f] 32 (0, 0))) (hE : w4.heap[C + 1]? = some (.cells #[.nilIface] 37 (0, 0)))
    (hk : KeyC w4 (fun j => w.heap.size ≤ j) [a, b, c, d, e, f] k) (hlow : Below w.heap.size w w4) :
    bodyPostD Tryz.prog Tryz.f7 (ParsedK l w) Exit.ret { tmps := tmps, defers := [{ target := .fn (.func 15) #[.pointer (some ⟨C, 0, none⟩), .pointer (some ⟨C + 1, 0, none⟩)], args := #[] }] } w4 := by
  show Leaves _ _ _ _ _ _ _
  refine leaves_cons (f := 15) (args := #[.pointer (some ⟨C, 0, none⟩), .pointer (some ⟨C + 1, 0, none⟩)]) (by simp) (by simp [go_sem]) ?_
  refine (kcatch_idle ⟨C, 0, none⟩ ⟨C + 1, 0, none⟩ w4).mono ?_
  rintro e' u' w5 ⟨rfl, rfl, rfl⟩
  show Leaves _ _ _ _ [] .returning _
  refine ⟨_, kresults_two rfl tmps w5 C (C + 1) _ _ _ _ _ h2 hC Tryz.underlying32 rfl key_size h3 (kload_err w5 (C + 1) _ (by rw [Lib.cell_of_heap hE]; rfl)), ?_⟩
  unfold ParsedK
  rw [hpf]
  exact ⟨[a, b, c, d, e, f], rfl, hk, hlow⟩
theorem kcell_one {w : World} {U : Nat} {a : Value} {t : TypeId} {fz : Nat × Nat} (h : w.heap[U]? = some (.cells #[a] t fz)) : w.cell? ⟨U, 0, none⟩ = some a := by rw [Lib.cell_of_heap h]; rfl
/-- the world in which Parse begins its work -/
abbrev parseW (w : World) (v : Value) : World := ((w.alloc (.cells zero6 32)).alloc (.cells #[.nilIface] 37)).alloc (.cells #[v, .int .i64 0] 63)
theorem parseW_at {w : World} {v : Value} {l : List Wd} (h : ReadsK w w.heap.size v l) : StK w (w.heap.size + 1 + 1) 0 v l (parseW w v) ∧ (parseW w v).heap[w.heap.size]? = some (.cells zero6 32 (0, 0)) ∧ (parseW w v).heap[w.heap.size + 1]? = some (.cells #[.nilIface] 37 (0, 0)) ∧ (parseW w v).heap.size = w.heap.size + 1 + 1 + 1 := by
  have h1 := World.heap_alloc_new w (.cells zero6 32)
  have s1 := alloc_size w (.cells zero6 32)
  have h2 := World.heap_alloc_new (w.alloc (.cells zero6 32)) (.cells #[.nilIface] 37)
  have s2 := alloc_size (w.alloc (.cells zero6 32)) (.cells #[.nilIface] 37)
  have h3 := World.heap_alloc_new ((w.alloc (.cells zero6 32)).alloc (.cells #[.nilIface] 37)) (.cells #[v, .int .i64 0] 63)
  have s3 := alloc_size ((w.alloc (.cells zero6 32)).alloc (.cells #[.nilIface] 37)) (.cells #[v, .int .i64 0] 63)
  rw [s2, s1] at h3 s3
  rw [s1] at h2
  have hb : Below w.heap.size w (parseW w v) := (((Below.refl _ w).alloc (Nat.le_refl _) _).alloc (by rw [s1]; exact Nat.le_succ _) _).alloc (by rw [s2, s1]; omega) _
  exact ⟨⟨hb, by omega, h3, h.under hb⟩, alloc_same (alloc_same h1), alloc_same h2, s3⟩
set_option maxRecDepth 100000 in
set_option maxHeartbeats 16000000 in
theorem parseK_any (v : Value) (l : List Wd) (w : World) (h : ReadsK w w.heap.size v l) (hG : SrG w) : Calls Tryz.prog 7 #[v] w (ParsedK l w) := by
  obtain ⟨a, c, rfl, -, -⟩ := h.val
  obtain ⟨hst, hC, hE, hsz⟩ := parseW_at h
  have cK := keys_all w hG (w.heap.size + 1 + 1) 0 _ l (parseW w (.slice a l.length c)) (by decide) hst
  have HST := Lib.hid hst
  have HC := Lib.hid hC
  have HE := Lib.hid hE
  have HSZ := Lib.hid hsz
  have hmf : ∀ (fn : Fn) (first cap : Array Value) (w : World), (Instr.makeFunc fn first cap).run Tryz.prog w = .ok (.func fn first cap) w := fun _ _ _ _ => rfl
  have hp : keysE (keysK (keyK 7) l 0) = match parseK l with | .error e => .error e | .ok k => .ok (k, [], match keysK (keyK 7) l 0 with | .ok (_, n) => n | .error _ => 0) := by
    unfold parseK
    cases keysK (keyK 7) l 0 with
    | error e => rfl
    | ok x => rfl
  rw [hp] at cK
  generalize (match keysK (keyK 7) l 0 with | .ok (_, n) => n | .error _ => 0) = N at cK
  clear hst hC hE hsz hG h hp
  unfold KeyS at cK
  cases hpk : parseK l with
  | error E =>
    rw [hpk] at cK
    dsimp only at cK
    have HPF := Lib.hid hpk
    clear hpk
    go_enter_defers Tryz.func7, Tryz.ntmps7
    go_wp2_with ((go_at_call 16; go_loud (((with_reducible refine cK.mono ?_); rintro e w1 h1; obtain ⟨rfl, hk1⟩ := h1))))
    have c1 := hk1.obj HC.out (by omega)
    have c2 := hk1.obj HE.out (by omega)
    have hb1 : Below w.heap.size w w1 := HST.out.base.trans (hk1.below HST.out.base.size (fun k e => by have : k = w.heap.size + 1 + 1 := e; omega))
    exact kdoor_bad rfl rfl HPF.out c1 c2 hb1 (Nat.le_refl _)
  | ok k =>
    rw [hpk] at cK
    dsimp only at cK
    have HPF := Lib.hid hpk
    clear hpk
    go_enter_defers Tryz.func7, Tryz.ntmps7
    go_wp2_with ((go_at_call 16; go_loud (((with_reducible refine cK.mono ?_); rintro e w1 h1; obtain ⟨v1, cs, rfl, hc1, st1, hk1⟩ := h1; obtain ⟨code, name, text, kn, set, keys, sa, kb, sc, kcc, rfl⟩ := hc1.six; have hz := hk1.obj HC.out (show ¬ w.heap.size = w.heap.size + 1 + 1 by omega); obtain ⟨r0, r1, r2, r3, r4, r5⟩ := ksix_cells hz; have fz := Lib.frozen_of_heap hz; have hz2 := hk1.obj HE.out (show ¬ w.heap.size + 1 = w.heap.size + 1 + 1 by omega); have q0 := kcell_one hz2; have fe := Lib.frozen_of_heap hz2 0))))
    have hd1 : w.heap.size + 1 ≠ w.heap.size := by omega
    have hszp : (parseW w (.slice a l.length c)).heap.size = w.heap.size + 1 + 1 + 1 := HSZ.out
    have hb1 : Below w.heap.size w w1 := HST.out.base.trans (hk1.below HST.out.base.size (fun k e => by have : k = w.heap.size + 1 + 1 := e; omega))
    have k2 := (six_kept' (S := fun j => j = w.heap.size ∨ j = w.heap.size + 1) (Kept.refl _ w1) w.heap.size (Or.inl rfl) (.int .i64 code) (.string ⟨name.toArray⟩) (.string ⟨text.toArray⟩) (.int .i64 kn) (.slice sa set.length sc) (.slice kb keys.length kcc)).set (p := ⟨w.heap.size + 1, 0, none⟩) (fun _ => Or.inr rfl) .nilIface
    have z2 := setCell_same (a := ⟨w.heap.size + 1, 0, none⟩) (u := .nilIface) (kset_six hz (.int .i64 code) (.string ⟨name.toArray⟩) (.string ⟨text.toArray⟩) (.int .i64 kn) (.slice sa set.length sc) (.slice kb keys.length kcc)) (Ne.symm hd1)
    have z3 := setCell_one (u := .nilIface) ((ksix_heap w1 (U := w.heap.size) (.int .i64 code) (.string ⟨name.toArray⟩) (.string ⟨text.toArray⟩) (.int .i64 kn) (.slice sa set.length sc) (.slice kb keys.length kcc) (w.heap.size + 1) hd1).trans hz2)
    clear r0 r1 r2 r3 r4 r5 fz q0 fe
    generalize ((((((w1.setCell ⟨w.heap.size, 0, none⟩ (.int .i64 code)).setCell ⟨w.heap.size, 1, none⟩ (.string ⟨name.toArray⟩)).setCell ⟨w.heap.size, 2, none⟩ (.string ⟨text.toArray⟩)).setCell ⟨w.heap.size, 3, none⟩ (.int .i64 kn)).setCell ⟨w.heap.size, 4, none⟩ (.slice sa set.length sc)).setCell ⟨w.heap.size, 5, none⟩ (.slice kb keys.length kcc)).setCell ⟨w.heap.size + 1, 0, none⟩ .nilIface = w2 at k2 z2 z3 ⊢
    have hb2 : Below w.heap.size w w2 := hb1.trans (k2.below hb1.size (fun k e => by rcases e with e | e <;> omega))
    have hc2 := hc1.keep (ok' := fun j => w.heap.size ≤ j) k2.size (fun j hj hl => k2.block j hl (fun e => by have h2 : (parseW w (.slice a l.length c)).heap.size ≤ j := hj; rcases e with e | e <;> omega)) (fun j hj _ => by have h2 : (parseW w (.slice a l.length c)).heap.size ≤ j := hj; omega)
    exact kdoor_good rfl rfl HPF.out z2 z3 hc2 hb2
end Go.Proofs.YtcahhnjponeeeaaGreatDoor
