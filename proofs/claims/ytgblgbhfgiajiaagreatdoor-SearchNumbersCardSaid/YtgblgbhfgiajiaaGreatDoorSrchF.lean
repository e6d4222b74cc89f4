/- How a key lies in memory; what search's key and keys bring; a row of keys that grows. No condition beyond those each names. The walk over search's keys: where key brings what its plain function says, keys does, too. No condition beyond those each names. The walk over search's key: too deep or too many; no word; a list. Conditions: none beyond those each names. -/
import Derived.Test.YtgblgbhfgiajiaaGreatDoorSrchC
import Derived.Maps.AppendAt
import Derived.Test.YtgblgbhfgiajiaaGreatDoorPSearch2
import Derived.Test.YtgblgbhfgiajiaaGreatDoorHeldS
import Derived.Deep.AppendLies
import Derived.Deep.DeepCutAuto
import Derived.Deep.CutBlock
namespace Go.Proofs.YtgblgbhfgiajiaaGreatDoor
open Go.RowKit Go.Shelf Go.Sort
set_option linter.unusedSimpArgs false

theorem kset_six {w : World} {U : Nat} {a b c d e f : Value} {T : TypeId} (h : w.heap[U]? = some (.cells #[a, b, c, d, e, f] T (0, 0))) (x0 x1 x2 x3 x4 x5 : Value) :
    ((((((w.setCell ⟨U, 0, none⟩ x0).setCell ⟨U, 1, none⟩ x1).setCell ⟨U, 2, none⟩ x2).setCell ⟨U, 3, none⟩ x3).setCell ⟨U, 4, none⟩ x4).setCell ⟨U, 5, none⟩ x5).heap[U]? = some (.cells #[x0, x1, x2, x3, x4, x5] T (0, 0)) := by
  simp only [World.setCell, Array.getElem?_modify, if_pos, h]
  simp
theorem ksix_cells {w : World} {U : Nat} {a b c d e f : Value} {t : TypeId} {fz : Nat × Nat} (h : w.heap[U]? = some (.cells #[a, b, c, d, e, f] t fz)) :
    w.cell? ⟨U, 0, none⟩ = some a ∧ w.cell? ⟨U, 1, none⟩ = some b ∧ w.cell? ⟨U, 2, none⟩ = some c ∧ w.cell? ⟨U, 3, none⟩ = some d ∧ w.cell? ⟨U, 4, none⟩ = some e ∧ w.cell? ⟨U, 5, none⟩ = some f := by
  refine ⟨?_, ?_, ?_, ?_, ?_, ?_⟩ <;> (rw [Lib.cell_of_heap h]; rfl)
theorem ksix_heap (W : World) {U : Nat} (x0 x1 x2 x3 x4 x5 : Value) (k : Nat) (hk : k ≠ U) : ((((((W.setCell ⟨U, 0, none⟩ x0).setCell ⟨U, 1, none⟩ x1).setCell ⟨U, 2, none⟩ x2).setCell ⟨U, 3, none⟩ x3).setCell ⟨U, 4, none⟩ x4).setCell ⟨U, 5, none⟩ x5).heap[k]? = W.heap[k]? := by
  rw [Below.heap_setCell _ _ _ _ hk, Below.heap_setCell _ _ _ _ hk, Below.heap_setCell _ _ _ _ hk, Below.heap_setCell _ _ _ _ hk, Below.heap_setCell _ _ _ _ hk, Below.heap_setCell _ _ _ _ hk]
theorem ksix_size (W : World) {U : Nat} (x0 x1 x2 x3 x4 x5 : Value) : ((((((W.setCell ⟨U, 0, none⟩ x0).setCell ⟨U, 1, none⟩ x1).setCell ⟨U, 2, none⟩ x2).setCell ⟨U, 3, none⟩ x3).setCell ⟨U, 4, none⟩ x4).setCell ⟨U, 5, none⟩ x5).heap.size = W.heap.size := by
  simp [World.setCell]
theorem ksix_kept {S : Nat → Prop} {w W : World} (h : Kept S w W) {U : Nat} (hU : w.heap.size ≤ U) (x0 x1 x2 x3 x4 x5 : Value) : Kept S w ((((((W.setCell ⟨U, 0, none⟩ x0).setCell ⟨U, 1, none⟩ x1).setCell ⟨U, 2, none⟩ x2).setCell ⟨U, 3, none⟩ x3).setCell ⟨U, 4, none⟩ x4).setCell ⟨U, 5, none⟩ x5) :=
  (((((h.setNew (p := ⟨U, 0, none⟩) hU _).setNew (p := ⟨U, 1, none⟩) hU _).setNew (p := ⟨U, 2, none⟩) hU _).setNew (p := ⟨U, 3, none⟩) hU _).setNew (p := ⟨U, 4, none⟩) hU _).setNew (p := ⟨U, 5, none⟩) hU _

/-- a key by its six cells, in blocks that are such as ok says -/
inductive KeyC (W : World) (ok : Nat → Prop) : List Value → KeyP → Prop
  | mk (code : Int) (name text : List UInt8) (n : Int) (set : List Rg) (keys : List KeyP) (sa ka : Option Addr) (sc kc : Nat) (vs : Nat → List Value) :
      text.length ≤ 2000000 → set.length ≤ sc → sc ≤ 9223372036854775807 → (sa = none → sc = 0) →
      (∀ (j : Nat) (r : Rg), set[j]? = some r → ∃ g off, sa = some ⟨g, off, none⟩ ∧ ok g ∧ g < W.heap.size ∧ W.cell? ⟨g, off + j * 2, none⟩ = some (.int .i64 r.1) ∧ W.cell? ⟨g, off + j * 2 + 1, none⟩ = some (.int .i64 r.2)) →
      (code = 13 → keys ≠ []) → keys.length ≤ kc → kc ≤ 9223372036854775807 →
      (∀ (j : Nat) (t : KeyP), keys[j]? = some t → ∃ g off, ka = some ⟨g, off, none⟩ ∧ ok g ∧ g < W.heap.size ∧ ∀ (i : Nat) (u : Value), (vs j)[i]? = some u → W.cell? ⟨g, off + j * 6 + i, none⟩ = some u) →
      (∀ (j : Nat) (t : KeyP), keys[j]? = some t → KeyC W ok (vs j) t) →
      KeyC W ok [.int .i64 code, .string ⟨name.toArray⟩, .string ⟨text.toArray⟩, .int .i64 n, .slice sa set.length sc, .slice ka keys.length kc] (.mk code name text n set keys)
theorem KeyC.keep {W W' : World} {ok ok' : Nat → Prop} {cs : List Value} {k : KeyP} (h : KeyC W ok cs k) (hs : W.heap.size ≤ W'.heap.size) (hk : ∀ j, ok j → j < W.heap.size → W'.heap[j]? = W.heap[j]?) (hok : ∀ j, ok j → j < W.heap.size → ok' j) : KeyC W' ok' cs k := by
  induction h with
  | mk code name text n set keys sa ka sc kc vs h1 h2 h3 h4 h5 h6 h7 h8 h9 _ ih =>
    refine .mk code name text n set keys sa ka sc kc vs h1 h2 h3 h4 (fun j r hj => ?_) h6 h7 h8 (fun j t hj => ?_) ih
    · obtain ⟨g, off, e, o, l, c0, c1⟩ := h5 j r hj
      exact ⟨g, off, e, hok g o l, Nat.lt_of_lt_of_le l hs, (World.cell?_of_block (w := W) (a := ⟨g, off + j * 2, none⟩) (hk g o l)).trans c0, (World.cell?_of_block (w := W) (a := ⟨g, off + j * 2 + 1, none⟩) (hk g o l)).trans c1⟩
    · obtain ⟨g, off, e, o, l, c⟩ := h9 j t hj
      exact ⟨g, off, e, hok g o l, Nat.lt_of_lt_of_le l hs, fun i u hi => (World.cell?_of_block (w := W) (a := ⟨g, off + j * 6 + i, none⟩) (hk g o l)).trans (c i u hi)⟩
theorem KeyC.six {W : World} {ok : Nat → Prop} {cs : List Value} {k : KeyP} (h : KeyC W ok cs k) : ∃ (code : Int) (name text : List UInt8) (n : Int) (set : List Rg) (keys : List KeyP) (sa ka : Option Addr) (sc kc : Nat), cs = [.int .i64 code, .string ⟨name.toArray⟩, .string ⟨text.toArray⟩, .int .i64 n, .slice sa set.length sc, .slice ka keys.length kc] := by
  cases h with
  | mk code name text n set keys sa ka sc kc => exact ⟨code, name, text, n, set, keys, sa, ka, sc, kc, rfl⟩
/-- a key that has neither a set nor keys -/
theorem keyC_leaf (W : World) (ok : Nat → Prop) (code : Int) (name text : List UInt8) (n : Int) (ht : text.length ≤ 2000000) (hc : code ≠ 13) : KeyC W ok [.int .i64 code, .string ⟨name.toArray⟩, .string ⟨text.toArray⟩, .int .i64 n, .slice none 0 0, .slice none 0 0] (.mk code name text n [] []) :=
  .mk code name text n [] [] none none 0 0 (fun _ => []) ht (Nat.zero_le _) (by decide) (fun _ => rfl) (fun j r h => by simp at h) (fun h => absurd h hc) (Nat.zero_le _) (by decide) (fun j r h => by simp at h) (fun j r h => by simp at h)
theorem rg_slice {W : World} {v : Value} {l : List Rg} (h : RgRow W v l) : ∃ a c, v = .slice a l.length c := by
  obtain ⟨a, c, rfl, _⟩ := h
  exact ⟨a, c, rfl⟩
/-- a key with a set -/
theorem keyC_set {W : World} {ok : Nat → Prop} {code : Int} {set : List Rg} {a : Option Addr} {m c : Nat} (hr : RgRow W (.slice a m c) set) (ho : ∀ g, (Value.slice a m c).ownBlock = some g → ok g) (hc : code ≠ 13) : KeyC W ok [.int .i64 code, .string ⟨#[]⟩, .string ⟨#[]⟩, .int .i64 0, .slice a m c, .slice none 0 0] (.mk code [] [] 0 set []) := by
  obtain ⟨ao, cap, e, h1, h2, h3⟩ := hr
  cases e
  refine .mk code [] [] 0 set [] a none c 0 (fun _ => []) (Nat.zero_le _) h1 h2.1 h2.2 (fun j r hj => ?_) (fun h => absurd h hc) (Nat.zero_le _) (by decide) (fun j r h => by simp at h) (fun j r h => by simp at h)
  obtain ⟨b, off, rfl, hb, c0, c1⟩ := h3 j r hj
  exact ⟨b, off, rfl, ho b rfl, hb, c0, c1⟩
/-- a key of one, or two, keys that lie in a block -/
theorem keyC_one {W : World} {ok : Nat → Prop} {code : Int} {N : Nat} {a b c d e f : Value} {k : KeyP} {T : TypeId} (hN : W.heap[N]? = some (.cells #[a, b, c, d, e, f] T (0, 0))) (ho : ok N) (hk : KeyC W ok [a, b, c, d, e, f] k) : KeyC W ok [.int .i64 code, .string ⟨#[]⟩, .string ⟨#[]⟩, .int .i64 0, .slice none 0 0, .slice (some ⟨N, 0, none⟩) 1 1] (.mk code [] [] 0 [] [k]) := by
  refine .mk code [] [] 0 [] [k] none (some ⟨N, 0, none⟩) 0 1 (fun _ => [a, b, c, d, e, f]) (Nat.zero_le _) (Nat.zero_le _) (by decide) (fun _ => rfl) (fun j r h => by simp at h) (fun _ h => by cases h) (Nat.le_refl _) (by decide) (fun j t hj => ?_) (fun j t hj => ?_)
  · match j, hj with
    | 0, hj =>
      refine ⟨N, 0, rfl, ho, (Array.getElem?_eq_some_iff.1 hN).1, fun i u hu => ?_⟩
      rw [show 0 + 0 * 6 + i = i by omega, Lib.cell_of_heap hN]
      simpa using hu
  · match j, hj with
    | 0, hj => simp at hj; subst hj; exact hk

theorem keyC_two {W : World} {ok : Nat → Prop} {code : Int} {N : Nat} {a b c d e f a' b' c' d' e' f' : Value} {k k' : KeyP} {T : TypeId} (hN : W.heap[N]? = some (.cells #[a, b, c, d, e, f, a', b', c', d', e', f'] T (0, 0))) (ho : ok N) (hc : code ≠ 13) (hk : KeyC W ok [a, b, c, d, e, f] k) (hk' : KeyC W ok [a', b', c', d', e', f'] k') : KeyC W ok [.int .i64 code, .string ⟨#[]⟩, .string ⟨#[]⟩, .int .i64 0, .slice none 0 0, .slice (some ⟨N, 0, none⟩) 2 2] (.mk code [] [] 0 [] [k, k']) := by
  refine .mk code [] [] 0 [] [k, k'] none (some ⟨N, 0, none⟩) 0 2 (fun j => if j = 0 then [a, b, c, d, e, f] else [a', b', c', d', e', f']) (Nat.zero_le _) (Nat.zero_le _) (by decide) (fun _ => rfl) (fun j r h => by simp at h) (fun h => absurd h hc) (Nat.le_refl _) (by decide) (fun j t hj => ?_) (fun j t hj => ?_)
  · match j, hj with
    | 0, hj =>
      refine ⟨N, 0, rfl, ho, (Array.getElem?_eq_some_iff.1 hN).1, fun i u hu => ?_⟩
      rw [show 0 + 0 * 6 + i = i by omega, Lib.cell_of_heap hN]
      match i, hu with
      | 0, hu => exact hu
      | 1, hu => exact hu
      | 2, hu => exact hu
      | 3, hu => exact hu
      | 4, hu => exact hu
      | 5, hu => exact hu
    | 1, hj =>
      refine ⟨N, 0, rfl, ho, (Array.getElem?_eq_some_iff.1 hN).1, fun i u hu => ?_⟩
      rw [show 0 + 1 * 6 + i = 6 + i by omega, Lib.cell_of_heap hN]
      match i, hu with
      | 0, hu => exact hu
      | 1, hu => exact hu
      | 2, hu => exact hu
      | 3, hu => exact hu
      | 4, hu => exact hu
      | 5, hu => exact hu
  · match j, hj with
    | 0, hj => simp at hj; subst hj; exact hk
    | 1, hj => simp at hj; subst hj; exact hk'
/-- what key brings -/
def KeyS (w0 : World) (P : Nat) (r : KeyE) (w : World) (e : Ending) (w' : World) : Prop := match r with
  | .error E => FailsK P E w e w'
  | .ok (k, l', n') => ∃ v cs, e = .returned (.agg cs.toArray) ∧ KeyC w' (fun j => w.heap.size ≤ j) cs k ∧ StK w0 P n' v l' w' ∧ Kept (fun k => k = P) w w'
theorem keyS_bad {w0 : World} {P E : Nat} {r : KeyE} {w : World} {e : Ending} {w' : World} (h : r = .error E) (hf : FailsK P E w e w') : KeyS w0 P r w e w' := by subst h; exact hf
/-- what holds in key: the result's block, and the parser -/
structure KeyW (w0 w : World) (P n : Nat) (v : Value) (l : List Wd) (wr : World) : Prop where
  st : StK w0 P n v l wr
  res : wr.heap[w.heap.size]? = some (.cells zero6 38 (0, 0))
  kept : Kept (fun k => k = P) w wr
theorem KeyW.under {w0 w wr w' : World} {P n : Nat} {v : Value} {l : List Wd} (h : KeyW w0 w P n v l wr) (hb : Below wr.heap.size wr w') : KeyW w0 w P n v l w' :=
  ⟨h.st.under hb, below_same hb h.res, kept_of h.kept hb⟩
theorem KeyW.next {w0 w wr w' : World} {P n n' : Nat} {v v' : Value} {l l' : List Wd} (h : KeyW w0 w P n v l wr) (hP : P < w.heap.size) (hk : Kept (fun k => k = P) wr w') (hs : StK w0 P n' v' l' w') : KeyW w0 w P n' v' l' w' :=
  ⟨hs, hk.obj h.res (by omega), h.kept.trans hk⟩
theorem KeyW.size {w0 w wr : World} {P n : Nat} {v : Value} {l : List Wd} (h : KeyW w0 w P n v l wr) : w.heap.size < wr.heap.size := (Array.getElem?_eq_some_iff.1 h.res).1
/-- the world in which key, and keys, begin -/
theorem keyW_start {w0 w : World} {P n : Nat} {v : Value} {l : List Wd} (h : StK w0 P n v l w) : KeyW w0 w P n v l (w.alloc (.cells zero6 38)) :=
  ⟨h.under ((Below.refl _ _).alloc (Nat.le_refl _) _), World.heap_alloc_new _ _, (Kept.refl _ _).alloc _⟩
theorem KeyW.count {w0 w wr : World} {P n : Nat} {v : Value} {l : List Wd} (h : KeyW w0 w P n v l wr) (hP : P < w.heap.size) (m : Nat) : KeyW w0 w P m v l (wr.setCell ⟨P, 1, none⟩ (.int .i64 (m : Int))) := by
  have hk : Kept (fun k => k = P) wr (wr.setCell ⟨P, 1, none⟩ (.int .i64 (m : Int))) := (Kept.refl _ _).setB _
  exact h.next hP hk (h.st.next hk (set2_1 h.st.pars) (h.st.words.kept hk h.st.low h.st.base.size))
/-- a key is laid as the result -/
theorem KeyW.done {w0 w wr : World} {P n : Nat} {v : Value} {l : List Wd} (h : KeyW w0 w P n v l wr) (hP : P < w.heap.size) {a b c d e f : Value} {k : KeyP} (hk : KeyC wr (fun j => w.heap.size < j) [a, b, c, d, e, f] k) {r : KeyE} (hr : r = .ok (k, l, n)) :
    KeyS w0 P r w (.returned (.agg #[a, b, c, d, e, f])) ((((((wr.setCell ⟨w.heap.size, 0, none⟩ a).setCell ⟨w.heap.size, 1, none⟩ b).setCell ⟨w.heap.size, 2, none⟩ c).setCell ⟨w.heap.size, 3, none⟩ d).setCell ⟨w.heap.size, 4, none⟩ e).setCell ⟨w.heap.size, 5, none⟩ f) := by
  subst hr
  have hB : w0.heap.size ≤ w.heap.size := by have := h.st.low; omega
  refine ⟨v, [a, b, c, d, e, f], rfl, ?_, ⟨?_, h.st.low, ?_, ?_⟩, ksix_kept h.kept (Nat.le_refl _) _ _ _ _ _ _⟩
  · exact hk.keep (by rw [ksix_size]; exact Nat.le_refl _) (fun j hj _ => ksix_heap _ _ _ _ _ _ _ _ (by omega)) (fun j hj _ => Nat.le_of_lt hj)
  · exact (ksix_kept (S := fun _ => False) (kept_below h.st.base) hB a b c d e f).below (Nat.le_refl _) (fun k h => h.elim)
  · exact (ksix_heap _ _ _ _ _ _ _ _ (by omega)).trans h.st.pars
  · exact h.st.words.keep fun j hj => ksix_heap _ _ _ _ _ _ _ _ (by omega)

/-- keys, each by its six cells, in one row -/
def cellsK (l : List (KeyP × List Value)) : List Value := l.flatMap fun x => x.2
theorem cellsK_len : ∀ l : List (KeyP × List Value), (∀ x ∈ l, x.2.length = 6) → (cellsK l).length = l.length * 6
  | [], _ => rfl
  | x :: l, h => by
    have := cellsK_len l (fun y hy => h y (List.mem_cons_of_mem _ hy))
    have h6 := h x List.mem_cons_self
    have e : cellsK (x :: l) = x.2 ++ cellsK l := rfl
    rw [e, List.length_append, this, h6, List.length_cons]; omega
theorem cellsK_at : ∀ (l : List (KeyP × List Value)), (∀ x ∈ l, x.2.length = 6) → ∀ (j : Nat) (x : KeyP × List Value), l[j]? = some x → ∀ (i : Nat) (u : Value), x.2[i]? = some u → (cellsK l)[j * 6 + i]? = some u
  | [], _, j, x, h => by simp at h
  | y :: l, h6, 0, x, h => by
    simp at h; subst h
    intro i u hi
    have e : cellsK (y :: l) = y.2 ++ cellsK l := rfl
    have hl : i < y.2.length := (List.getElem?_eq_some_iff.1 hi).1
    rw [e, Nat.zero_mul, Nat.zero_add, List.getElem?_append_left hl]
    exact hi
  | y :: l, h6, j + 1, x, h => by
    intro i u hi
    have ih := cellsK_at l (fun y hy => h6 y (List.mem_cons_of_mem _ hy)) j x (by simpa using h) i u hi
    have e : cellsK (y :: l) = y.2 ++ cellsK l := rfl
    have hl : y.2.length = 6 := h6 y List.mem_cons_self
    rw [e, List.getElem?_append_right (by omega), hl, show (j + 1) * 6 + i - 6 = j * 6 + i by omega]
    exact ih
theorem keyC_len {W : World} {ok : Nat → Prop} {cs : List Value} {k : KeyP} (h : KeyC W ok cs k) : cs.length = 6 := by
  obtain ⟨_, _, _, _, _, _, _, _, _, _, rfl⟩ := h.six
  rfl
/-- a row of keys, as one key's keys -/
theorem keyC_row {W : World} {B : Nat} {ok : Nat → Prop} {code : Int} {l : List (KeyP × List Value)} {a : Option Addr} {m c : Nat} (h : W.ownsRow B 38 6 (.slice a m c) l.length (cellsK l)) (hok : ∀ g, (Value.slice a m c).ownBlock = some g → ok g) (hk : ∀ x ∈ l, KeyC W ok x.2 x.1) (hc : code ≠ 13) : KeyC W ok [.int .i64 code, .string ⟨#[]⟩, .string ⟨#[]⟩, .int .i64 0, .slice none 0 0, .slice a m c] (.mk code [] [] 0 [] (l.map (·.1))) := by
  have h6 : ∀ x ∈ l, x.2.length = 6 := fun x hx => keyC_len (hk x hx)
  have h0 := h
  rcases h.2 with ⟨e, e0⟩ | ⟨g, cap, cur, e, hg, hh, h3, h4, h5, h6'⟩
  · cases e
    have : l = [] := List.eq_nil_of_length_eq_zero e0
    subst this
    exact keyC_leaf W ok code [] [] 0 (Nat.zero_le _) hc
  · cases e
    have hm : l.length = (l.map (·.1)).length := (List.length_map _).symm
    rw [hm]
    refine .mk code [] [] 0 [] _ none (some ⟨g, 0, none⟩) 0 c (fun j => ((l[j]?).map (·.2)).getD []) (Nat.zero_le _) (Nat.zero_le _) (by decide) (fun _ => rfl) (fun j r h => by simp at h) (fun h => absurd h hc) (by rw [List.length_map]; exact h3) (by unfold maxLen at h4; omega) (fun j t hj => ?_) (fun j t hj => ?_)
    · rw [List.getElem?_map] at hj
      obtain ⟨x, hx, rfl⟩ := Option.map_eq_some_iff.1 hj
      refine ⟨g, 0, rfl, hok g rfl, (Array.getElem?_eq_some_iff.1 hh).1, fun i u hu => ?_⟩
      simp only [hx, Option.map_some, Option.getD_some] at hu
      have hc := cellsK_at l h6 j x hx i u hu
      have := h0.cellAt (j * 6 + i) (by have := (List.getElem?_eq_some_iff.1 hc).1; rw [cellsK_len l h6] at this; exact this)
      rw [Nat.zero_add]
      rw [this, hc]
    · rw [List.getElem?_map] at hj
      obtain ⟨x, hx, rfl⟩ := Option.map_eq_some_iff.1 hj
      simp only [hx, Option.map_some, Option.getD_some]
      exact hk x (List.mem_of_getElem? hx)

section
variable {P : Program} {ops : Array Oper} {rest : List Oper} {o : Oper} {a : Act} {Q : Exit → Act → World → Prop}
/-- append(v, x), v owned, x of six cells in a new block -/
theorem wpList_app6 (hgd : o.guard = none) (s x : Operand) (t : TypeId) (ho : o.op = .call { callee := .builtin .append, args := #[s, x], argTypes := #[t, t] })
    (e : TypeId) {z : Value} {bytes : Nat} (ht : P.underlying t = some (.slice e)) (hinfo : (P.info? e).map (fun i => (i.zero, i.size, i.bytes)) = some (some z, 6, bytes)) (hzs : z.cells.size = 6)
    (base : Nat) (v : Value) (n : Nat) (xs : List Value) (w : World) (hs : a.eval s = v) (hown : w.ownsRow base e 6 v n xs)
    (y0 y1 y2 y3 y4 y5 : Value) (hx : a.eval x = .slice (some ⟨w.heap.size, 0, none⟩) 1 1) (h0 : y0.oneCell' = true) (h1 : y1.oneCell' = true) (h2 : y2.oneCell' = true) (h3 : y3.oneCell' = true) (h4 : y4.oneCell' = true) (h5 : y5.oneCell' = true)
    (hn : n + 1 ≤ 4294967296) (hb : bytes ≤ 200) (hbase : base ≤ w.heap.size)
    (h : ∀ v' w', w'.ownsRow base e 6 v' (n + 1) (xs ++ [y0, y1, y2, y3, y4, y5]) → (w.alloc (.cells #[y0, y1, y2, y3, y4, y5] e)).grownBy w' v.ownBlock → (∀ g, v'.ownBlock = some g → v.ownBlock = some g ∨ g = w.heap.size + 1) → wpList P ops Q rest (a.put o.dst v') w') : wpList P ops Q (o :: rest) a (w.alloc (.cells #[y0, y1, y2, y3, y4, y5] e)) := by
  obtain ⟨i0, hi, hz0, hz1, hz2⟩ := info_parts hinfo
  refine wpList_append_own_at _ hgd s x t ho base e i0 z 6 bytes ht hi hz0 hz1 hz2 hzs (by decide) v n xs hs (hown.alloc _) ⟨w.heap.size, 0, none⟩ 1 1 [y0, y1, y2, y3, y4, y5] hx rfl ?_ ?_ ?_ ?_ ?_ ?_
  · intro j u hj
    match j, hj with
    | 0, hj => simp at hj; subst hj; simp [Addr.add]
    | 1, hj => simp at hj; subst hj; simp [Addr.add]
    | 2, hj => simp at hj; subst hj; simp [Addr.add]
    | 3, hj => simp at hj; subst hj; simp [Addr.add]
    | 4, hj => simp at hj; subst hj; simp [Addr.add]
    | 5, hj => simp at hj; subst hj; simp [Addr.add]
  · intro u hu; simp at hu; rcases hu with rfl | rfl | rfl | rfl | rfl | rfl <;> assumption
  · unfold maxLen; omega
  · have : (n + 1) * bytes ≤ 4294967296 * 200 := Nat.mul_le_mul hn hb
    omega
  · simp; omega
  · intro v' w' k1 k2 _ k4
    refine h v' w' k1 k2 fun g hg => ?_
    rcases k4 with k4 | k4
    · exact Or.inl (k4.symm.trans hg)
    · rw [hg, alloc_size] at k4
      exact Or.inr (Option.some.inj k4)
end
theorem key_info : (Tryz.prog.info? 38).map (fun i => (i.zero, i.size, i.bytes)) = some (some (.agg #[.int .i64 0, .string ByteArray.empty, .string ByteArray.empty, .int .i64 0, .slice none 0 0, .slice none 0 0]), 6, 96) := by kernel_rfl
end Go.Proofs.YtgblgbhfgiajiaaGreatDoor
namespace Go.Proofs.YtgblgbhfgiajiaaGreatDoor
open Go.RowKit Go.Shelf Go.Sort
set_option linter.unusedSimpArgs false

/-- what keys brings, as a key with no words left -/
def keysE : Except Nat (KeyP × Nat) → KeyE
  | .error e => .error e
  | .ok (k, n) => .ok (k, [], n)
def keysR : Except Nat (List KeyP × Nat) → KeyE
  | .error e => .error e
  | .ok (ks, m) => .ok (allK ks, [], m)
theorem keysE_keys (f : List Wd → Nat → KeyE) (l : List Wd) (n : Nat) : keysE (keysK f l n) = keysR (loopK f (l.length + 1) l n []) := by
  unfold keysK
  cases loopK f (l.length + 1) l n [] with
  | error e => rfl
  | ok x => rfl
/-- the keys so far, in a row of their own -/
structure RowK (w0 w : World) (P n : Nat) (v : Value) (l : List Wd) (items : List (KeyP × List Value)) (kv : Value) (wr : World) : Prop where
  kw : KeyW w0 w P n v l wr
  own : wr.ownsRow (w.heap.size + 1) 38 6 kv items.length (cellsK items)
  kids : ∀ x ∈ items, KeyC wr (fun j => w.heap.size < j ∧ kv.ownBlock ≠ some j) x.2 x.1
theorem parsK_ne {w : World} {P n k : Nat} {v : Value} {c : Array Value} {T : TypeId} {fz : Nat × Nat} (h : ParsK w P v n) (hk : w.heap[k]? = some (.cells c T fz)) (hT : T ≠ 59) : k ≠ P := by
  rintro rfl
  unfold ParsK at h
  rw [hk] at h
  have := congrArg (fun o : Option Obj => match o with | some (.cells _ t _) => t | _ => T) h
  exact hT this
theorem RowK.call {w0 w wr w' : World} {P n n' : Nat} {v v' : Value} {l l' : List Wd} {items : List (KeyP × List Value)} {kv : Value} (h : RowK w0 w P n v l items kv wr) (hP : P < w.heap.size) (hk : Kept (fun k => k = P) wr w') (hs : StK w0 P n' v' l' w') : RowK w0 w P n' v' l' items kv w' := by
  refine ⟨h.kw.next hP hk hs, ?_, fun x hx => ?_⟩
  · refine owns_same h.own fun j o hj hor => hk.obj hj ?_
    obtain ⟨c, fz, rfl⟩ := hor
    exact parsK_ne h.kw.st.pars hj (by decide)
  · exact (h.kids x hx).keep hk.size (fun j hj hl => hk.block j hl (fun e => by have : j = P := e; omega)) (fun j hj _ => hj)
theorem RowK.push {w0 w w4 w6 : World} {P n : Nat} {v : Value} {l : List Wd} {items : List (KeyP × List Value)} {kv kv' : Value} (h : RowK w0 w P n v l items kv w4) (hP : P < w.heap.size) (k : KeyP) (a b c d e f : Value) (H : Nat) (hH : w.heap.size < H) (hv : ∀ g, kv.ownBlock = some g → g < H) (hc : KeyC w4 (fun j => H ≤ j) [a, b, c, d, e, f] k)
    (hown : w6.ownsRow (w.heap.size + 1) 38 6 kv' (items.length + 1) (cellsK items ++ [a, b, c, d, e, f])) (hg : (w4.alloc (.cells #[a, b, c, d, e, f] 38)).grownBy w6 kv.ownBlock) (hat : ∀ g, kv'.ownBlock = some g → kv.ownBlock = some g ∨ g = w4.heap.size + 1) :
    RowK w0 w P n v l (items ++ [(k, [a, b, c, d, e, f])]) kv' w6 := by
  have hPl := h.kw.st.pars.lt
  have hR := h.kw.size
  have hsz := alloc_size w4 (.cells #[a, b, c, d, e, f] 38)
  have hle := hg.size
  have hlow : ∀ j, kv.ownBlock = some j → w.heap.size + 1 ≤ j := fun j e => (h.own.lt j e).1
  have same : ∀ j, j < w4.heap.size → kv.ownBlock ≠ some j → w6.heap[j]? = w4.heap[j]? := fun j hj hne =>
    (hg.block j (by omega) (fun e => hne e.symm)).trans (Below.heap_alloc w4 _ j hj)
  have hB : w0.heap.size ≤ P := h.kw.st.low
  have hb0 : Below w0.heap.size w0 w6 := (h.kw.st.base.alloc h.kw.st.base.size _).grown hg (by have := h.kw.st.base.size; omega) (fun j e => by have := hlow j e; omega)
  refine ⟨⟨⟨hb0, hB, (same P (by omega) (fun e => by have := hlow P e; omega)).trans h.kw.st.pars, h.kw.st.words.keep fun j hj => same j (by omega) (fun e => by have := hlow j e; omega)⟩, (same _ hR (fun e => by have := hlow _ e; omega)).trans h.kw.res, ?_⟩, ?_, ?_⟩
  · have h1 : Below w.heap.size w4 w6 := ((Below.refl w.heap.size w4).alloc h.kw.kept.size _).grown hg (by have := h.kw.kept.size; omega) (fun j e => by have := hlow j e; omega)
    exact h.kw.kept.next h1
  · have e1 : (items ++ [(k, [a, b, c, d, e, f])]).length = items.length + 1 := by simp
    have e2 : cellsK (items ++ [(k, [a, b, c, d, e, f])]) = cellsK items ++ [a, b, c, d, e, f] := by simp [cellsK]
    rw [e1, e2]
    exact hown
  · intro y hy
    have key : ∀ (ok : Nat → Prop) (cs : List Value) (u : KeyP), KeyC w4 ok cs u → (∀ j, ok j → w.heap.size < j ∧ kv.ownBlock ≠ some j) → KeyC w6 (fun j => w.heap.size < j ∧ kv'.ownBlock ≠ some j) cs u := fun ok cs u hr hok => by
      refine hr.keep (by omega) (fun j hj hl => same j hl (hok j hj).2) (fun j hj hl => ⟨(hok j hj).1, fun e => ?_⟩)
      rcases hat j e with h' | h'
      · exact (hok j hj).2 h'
      · omega
    rcases List.mem_append.1 hy with h' | h'
    · exact key _ _ _ (h.kids y h') (fun j hj => hj)
    · rw [List.mem_singleton] at h'
      subst h'
      exact key _ _ _ hc (fun j hj => ⟨by omega, fun e => by have := hv j e; omega⟩)
theorem rowK_start {w0 w : World} {P n : Nat} {v : Value} {l : List Wd} (h : StK w0 P n v l w) : RowK w0 w P n v l [] (.slice none 0 0) (w.alloc (.cells zero6 38)) :=
  ⟨keyW_start h, World.ownsRow_nil _ _ _ _, fun x hx => by cases hx⟩
theorem own_slice6 {w : World} {B : Nat} {e : TypeId} {v : Value} {n : Nat} {xs : List Value} (h : w.ownsRow B e 6 v n xs) : ∃ a c, v = .slice a n c := by
  rcases h.2 with ⟨rfl, h0⟩ | ⟨g, cap, cur, rfl, _⟩
  · exact ⟨none, 0, by rw [h0]⟩
  · exact ⟨_, cap, rfl⟩
/-- what holds at the loop's head: either the keys go on, or all is read -/
def GoesK (f : List Wd → Nat → KeyE) (l : List Wd) (n : Nat) (acc : List KeyP) (R : Except Nat (List KeyP × Nat)) : Prop :=
  if acc ≠ [] ∧ l = [] then R = .ok (acc, n) else ∃ fu, l.length + 1 ≤ fu ∧ loopK f fu l n acc = R
set_option maxRecDepth 100000 in
set_option maxHeartbeats 16000000 in
theorem keys_any (d D : Nat) (hD : D ≤ 7) (w0 : World)
    (IH : ∀ (P n : Nat) (v : Value) (l : List Wd) (w : World), n ≤ 60 → StK w0 P n v l w → Calls Tryz.prog 36 #[.pointer (some ⟨P, 0, none⟩), .int .i64 (D : Int)] w (KeyS w0 P (keyK d l n) w))
    (P n : Nat) (v : Value) (l : List Wd) (w : World) (hn : n ≤ 60) (h : StK w0 P n v l w) :
    Calls Tryz.prog 17 #[.pointer (some ⟨P, 0, none⟩), .int .i64 (D : Int)] w (KeyS w0 P (keysE (keysK (keyK d) l n)) w) := by
  obtain ⟨R, hR⟩ : ∃ R, loopK (keyK d) (l.length + 1) l n [] = R := ⟨_, rfl⟩
  rw [keysE_keys, hR]
  have HR : Hid (GoesK (keyK d) l n [] R) := Lib.hid (by
    unfold GoesK
    rw [if_neg (fun h => h.1 rfl)]
    exact ⟨_, Nat.le_refl _, hR⟩)
  have hs0 := rowK_start h
  have hP := h.pars.lt
  have H0 := Lib.hid hs0
  have hstep := key_step d
  have HS := Lib.hid hstep
  have hsz := alloc_size w (.cells zero6 38)
  have HIH := Lib.hid IH
  clear hR h hs0 hstep IH
  go_enter Tryz.func17, Tryz.ntmps17
  go_wp2_with fail
  go_loopg [5, 6] (l.length + 1) (fun g s5 s6 wr => ∃ (items : List (KeyP × List Value)) (m : Nat) (u : Value) (l' : List Wd), s6 = .bool items.isEmpty ∧ l'.length + 1 ≤ g ∧ items.length ≤ m ∧ m ≤ 60 ∧ Hid (RowK w0 w P m u l' items s5 wr) ∧ Hid (GoesK (keyK d) l' m (items.map (·.1)) R))
  case atStart => exact ⟨[], n, v, l, rfl, Nat.le_refl _, Nat.zero_le _, hn, H0, HR⟩
  case round =>
    clear H0 HR hsz
    obtain ⟨items, m, u, l', rfl, hg, him, hm60, HK, HF⟩ := hrel
    obtain ⟨g', rfl⟩ : ∃ g', gk = g' + 1 := ⟨gk - 1, by omega⟩
    obtain ⟨ka, kc, rfl⟩ := own_slice6 HK.out.own
    obtain ⟨a, c, rfl, hlc, hcm⟩ := HK.out.kw.st.words.val
    obtain ⟨c0, c1⟩ := two_cells HK.out.kw.st.pars
    have f0 := Lib.frozen_of_heap HK.out.kw.st.pars
    by_cases hend : items ≠ [] ∧ l' = []
    · obtain ⟨hne, rfl⟩ := hend
      have HX : Hid (R = .ok (items.map (·.1), m)) := Lib.hid (by
        have := HF.out
        unfold GoesK at this
        rw [if_pos ⟨by simpa using hne, rfl⟩] at this
        exact this)
      clear HF HIH
      cases items with
      | nil => exact absurd rfl hne
      | cons x rest =>
        have hRB := HK.out.kw.res
        obtain ⟨r0, r1, r2, r3, r4, r5⟩ := ksix_cells hRB
        have fz := Lib.frozen_of_heap hRB
        clear hRB
        cases rest with
        | nil =>
          obtain ⟨k, cs⟩ := x
          obtain ⟨code, name, text, kn, set, keys, sa, kb, sc, kcc, hcs⟩ := (HK.out.kids _ List.mem_cons_self).six
          simp only at hcs
          subst hcs
          rcases HK.out.own.2 with ⟨_, e0⟩ | ⟨g, cap, cur, e, hg', hh, h3, h4, h5, h6⟩
          · cases e0
          · cases e
            have hown1 := HK.out.own
            have hcell : ∀ (j : Nat) (u : Value), j < 6 → [Value.int .i64 code, .string ⟨name.toArray⟩, .string ⟨text.toArray⟩, .int .i64 kn, .slice sa set.length sc, .slice kb keys.length kcc][j]? = some u → wr.cell? ⟨g, j, none⟩ = some u := fun j u hj hu => by
              rw [hown1.cellAt j hj]
              exact hu
            have q0 := hcell 0 _ (by decide) rfl
            have q1 := hcell 1 _ (by decide) rfl
            have q2 := hcell 2 _ (by decide) rfl
            have q3 := hcell 3 _ (by decide) rfl
            have q4 := hcell 4 _ (by decide) rfl
            have q5 := hcell 5 _ (by decide) rfl
            clear hcell hh h5 h6 h4 hown1
            go_wp2_with fail
            rw [HX.out]
            refine bodyPost_ret (results_cell_row (P := Tryz.prog) rfl _ _ w.heap.size _ _ _ _ rfl (kset_six HK.out.kw.res _ _ _ _ _ _) Tryz.underlying38 rfl key_size) rfl ?_
            exact HK.out.kw.done hP ((HK.out.kids _ List.mem_cons_self).keep (Nat.le_refl _) (fun _ _ _ => rfl) (fun j hj _ => hj.1)) rfl
        | cons y rest =>
          have hl1 : ((x :: y :: rest).length : Int) ≠ 1 := by simp only [List.length_cons]; omega
          have hl2 : (((x :: y :: rest).length : Int) == 1) = false := by rw [beq_eq_false_iff_ne]; exact hl1
          obtain ⟨L, hL⟩ : ∃ L, (x :: y :: rest).length = L := ⟨_, rfl⟩
          have hie : (x :: y :: rest).isEmpty = false := rfl
          rw [hie]
          rw [hL] at hl1 hl2 ⊢
          have HLL := Lib.hid hL
          clear hL hie
          go_wp2_with fail
          rw [HX.out]
          refine bodyPost_ret (results_cell_row (P := Tryz.prog) rfl _ _ w.heap.size _ _ _ _ rfl (kset_six HK.out.kw.res _ _ _ _ _ _) Tryz.underlying38 rfl key_size) rfl ?_
          refine HK.out.kw.done hP ?_ rfl
          have hrow := keyC_row (ok := fun j => w.heap.size < j) (code := 15) HK.out.own (fun g hg => (HK.out.own.lt g hg).1) (fun z hz => (HK.out.kids z hz).keep (Nat.le_refl _) (fun _ _ _ => rfl) (fun j hj _ => hj.1)) (by decide)
          rw [HLL.out] at hrow
          exact hrow
    · obtain ⟨fu, hfu, hF⟩ : ∃ fu, l'.length + 1 ≤ fu ∧ loopK (keyK d) fu l' m (items.map (·.1)) = R := by
        have := HF.out
        unfold GoesK at this
        rw [if_neg (fun h => hend ⟨by simpa using h.1, h.2⟩)] at this
        exact this
      obtain ⟨fu, rfl⟩ : ∃ f2, fu = f2 + 1 := ⟨fu - 1, by omega⟩
      have cK := HIH.out P m _ l' wr hm60 HK.out.kw.st
      unfold KeyS at cK
      have hlen : items.isEmpty = false → (0 : Int) < (l'.length : Int) := fun h => by
        have : l' ≠ [] := fun e => hend ⟨fun e2 => (by subst e2; cases h), e⟩
        have := List.length_pos_iff.2 this
        omega
      cases hk : keyK d l' m with
      | error E =>
        rw [hk] at cK
        have HX : Hid (R = .error E) := Lib.hid (by rw [← hF, loop_bad hk])
        clear hF HF hk hend
        cases hie : items.isEmpty with
        | true =>
          clear hlen hie
          go_wp2_with ((go_at_call 36; go_loud (((with_reducible refine cK.mono ?_); rintro e w1 h1; obtain ⟨rfl, hk1⟩ := h1))))
          exact ⟨rfl, keyS_bad (by rw [HX.out]; rfl) ⟨rfl, HK.out.kw.kept.trans hk1⟩⟩
        | false =>
          have hl0 := hlen hie
          clear hlen hie
          go_wp2_with ((go_at_call 36; go_loud (((with_reducible refine cK.mono ?_); rintro e w1 h1; obtain ⟨rfl, hk1⟩ := h1))))
          exact ⟨rfl, keyS_bad (by rw [HX.out]; rfl) ⟨rfl, HK.out.kw.kept.trans hk1⟩⟩
      | ok x =>
        obtain ⟨k, l2, m2⟩ := x
        rw [hk] at cK
        obtain ⟨g1, g2, g3⟩ := HS.out _ _ _ _ _ hk
        have HN : Hid (GoesK (keyK d) l2 m2 ((items.map (·.1)) ++ [k]) R) := Lib.hid (by
          unfold GoesK
          rw [loop_more hk] at hF
          by_cases he : l2 = []
          · rw [if_pos he] at hF
            rw [if_pos ⟨by simp, he⟩, hF]
          · rw [if_neg he] at hF
            rw [if_neg (fun h => he h.2)]
            exact ⟨fu, by omega, hF⟩)
        have hil : items.length + 1 ≤ 60 := by omega
        have hwl : ∀ g, (Value.slice ka items.length kc).ownBlock = some g → g < wr.heap.size := fun g hg => (HK.out.own.lt g hg).2
        have hwr : w.heap.size < wr.heap.size := HK.out.kw.size
        clear hF HF hk hend
        cases hie : items.isEmpty with
        | true =>
          clear hlen
          go_wp2_with (first
            | (go_at_call 36; go_loud (((with_reducible refine cK.mono ?_); rintro e w1 h1; obtain ⟨v1, cs, rfl, hc1, st1, hk1⟩ := h1; obtain ⟨code, name, text, kn, set, keys, sa, kb, sc, kcc, rfl⟩ := hc1.six; have hrow1 := HK.out.call hP hk1 st1; have ho1 := hrow1.own; have hbs := hrow1.kw.size)))
            | (at_builtin; go_must (refine wpList_app6 rfl _ _ 36 rfl 38 Tryz.underlying36 key_info rfl (w.heap.size + 1) (.slice ka items.length kc) items.length (cellsK items) w1 rfl ho1 _ _ _ _ _ _ rfl rfl rfl rfl rfl rfl rfl ?c3 (by decide) ?c5 ?_)))
          case c3 => omega
          case c5 => omega
          intro v' w6 hown6 hg6 hat
          obtain ⟨na, nc, rfl⟩ := own_slice6 hown6
          have hnew := hrow1.push hP k _ _ _ _ _ _ wr.heap.size hwr hwl hc1 hown6 hg6 hat
          go_wp2_with fail
          go_roundg g'
          case measure => omega
          case rel => exact ⟨items ++ [(k, _)], m2, v1, l2, by simp, by omega, by simp; omega, g3, Lib.hid hnew, by simpa using HN⟩
        | false =>
          have hl0 := hlen hie
          have hl0n : decide ((0 : Int) < (l'.length : Int)) = true := decide_eq_true hl0
          clear hlen
          go_wp2_with (first
            | (go_at_call 36; go_loud (((with_reducible refine cK.mono ?_); rintro e w1 h1; obtain ⟨v1, cs, rfl, hc1, st1, hk1⟩ := h1; obtain ⟨code, name, text, kn, set, keys, sa, kb, sc, kcc, rfl⟩ := hc1.six; have hrow1 := HK.out.call hP hk1 st1; have ho1 := hrow1.own; have hbs := hrow1.kw.size)))
            | (at_builtin; go_must (refine wpList_app6 rfl _ _ 36 rfl 38 Tryz.underlying36 key_info rfl (w.heap.size + 1) (.slice ka items.length kc) items.length (cellsK items) w1 rfl ho1 _ _ _ _ _ _ rfl rfl rfl rfl rfl rfl rfl ?c3 (by decide) ?c5 ?_)))
          case c3 => omega
          case c5 => omega
          intro v' w6 hown6 hg6 hat
          obtain ⟨na, nc, rfl⟩ := own_slice6 hown6
          have hnew := hrow1.push hP k _ _ _ _ _ _ wr.heap.size hwr hwl hc1 hown6 hg6 hat
          go_wp2_with fail
          go_roundg g'
          case measure => omega
          case rel => exact ⟨items ++ [(k, _)], m2, v1, l2, by simp, by omega, by simp; omega, g3, Lib.hid hnew, by simpa using HN⟩
end Go.Proofs.YtgblgbhfgiajiaaGreatDoor
namespace Go.Proofs.YtgblgbhfgiajiaaGreatDoor
open Go.RowKit Go.Shelf Go.Sort
set_option linter.unusedSimpArgs false

/-- key's own beginning: the result's block is laid, and the key is counted -/
abbrev keyB (w : World) (P n : Nat) : World := (w.setCell ⟨P, 1, none⟩ (.int .i64 ((n : Int) + 1))).alloc (.cells zero6 38)
theorem keyB_at {w0 w : World} {P n : Nat} {v : Value} {l : List Wd} (h : StK w0 P n v l w) : KeyW w0 w P (n + 1) v l (keyB w P n) := by
  have hk : Kept (fun k => k = P) w (w.setCell ⟨P, 1, none⟩ (.int .i64 ((n + 1 : Nat) : Int))) := (Kept.refl _ _).setB _
  have h1 := keyW_start (h.next hk (set2_1 h.pars) (h.words.kept hk h.low h.base.size))
  refine ⟨h1.st, ?_, hk.trans h1.kept⟩
  have := h1.res
  rw [set_size] at this
  exact this
set_option maxRecDepth 100000 in
set_option maxHeartbeats 8000000 in
theorem key_limit (D : Nat) (hD : D ≤ 7) (w0 : World) (P n : Nat) (v : Value) (l : List Wd) (w : World) (h : StK w0 P n v l w) (hn : n ≤ 60) (hl : 6 < D ∨ 60 < n + 1) : Calls Tryz.prog 36 #[.pointer (some ⟨P, 0, none⟩), .int .i64 (D : Int)] w (KeyS w0 P (.error 4) w) := by
  have cF : ∀ W : World, Calls Tryz.prog 52 #[.int .i64 4] W fun e w' => e = .panicked [{ v := .iface 55 (.agg #[.int .i64 4]), recovered := false }] ∧ w' = W := fun W => failK_any 4 W
  obtain ⟨c0, c1⟩ := two_cells h.pars
  have f1 := Lib.frozen_of_heap h.pars 1
  have hP := h.pars.lt
  have K1 := Lib.hid (keyB_at h)
  clear h
  by_cases h6 : 6 < D
  · have h6z : (6 : Int) < (D : Int) := by omega
    go_enter Tryz.func36, Tryz.ntmps36
    go_wp2_with ((go_at_call 52; go_loud (((with_reducible refine (cF _).mono ?_); rintro e w4 ⟨rfl, hw4⟩; rw [hw4]; clear hw4))))
    exact ⟨rfl, rfl, K1.out.kept⟩
  · have h6z : decide ((6 : Int) < (D : Int)) = false := decide_eq_false (by omega)
    have h60z : (60 : Int) < (n : Int) + 1 := by omega
    go_enter Tryz.func36, Tryz.ntmps36
    go_wp2_with ((go_at_call 52; go_loud (((with_reducible refine (cF _).mono ?_); rintro e w4 ⟨rfl, hw4⟩; rw [hw4]; clear hw4))))
    exact ⟨rfl, rfl, K1.out.kept⟩

set_option maxRecDepth 100000 in
set_option maxHeartbeats 8000000 in
theorem key_none (D : Nat) (hD : D ≤ 6) (w0 : World) (P n : Nat) (v : Value) (w : World) (h : StK w0 P n v [] w) (hn : n + 1 ≤ 60) : Calls Tryz.prog 36 #[.pointer (some ⟨P, 0, none⟩), .int .i64 (D : Int)] w (KeyS w0 P (.error 3) w) := by
  obtain ⟨a, c, rfl, -, -⟩ := h.words.val
  obtain ⟨c0, c1⟩ := two_cells h.pars
  have f1 := Lib.frozen_of_heap h.pars 1
  have hP := h.pars.lt
  have hK1 := keyB_at h
  have h6z : decide ((6 : Int) < (D : Int)) = false := decide_eq_false (by omega)
  have h60z : decide ((60 : Int) < (n : Int) + 1) = false := decide_eq_false (by omega)
  obtain ⟨w1, hw1⟩ : ∃ w1, keyB w P n = w1 := ⟨_, rfl⟩
  rw [hw1] at hK1
  have K1 := Lib.hid hK1
  have HW := Lib.hid hw1
  have cW := word_st hK1.st
  unfold WordS at cW
  clear h hK1 hw1
  go_enter Tryz.func36, Tryz.ntmps36
  go_upto_region 2 with fail
  rw [show (w.setCell ⟨P, 1, none⟩ (.int .i64 ((n : Int) + 1))).alloc (.cells #[.int .i64 0, .string ⟨#[]⟩, .string ⟨#[]⟩, .int .i64 0, .slice none 0 0, .slice none 0 0] 38) = w1 from HW.out]
  clear c0 c1 f1
  obtain ⟨c0, c1⟩ := two_cells K1.out.st.pars
  go_wp2_with ((go_at_call 53; go_loud (((with_reducible refine cW.mono ?_); rintro e w2 h2; obtain ⟨rfl, hk2⟩ := h2))))
  exact ⟨rfl, rfl, K1.out.kept.trans hk2⟩
end Go.Proofs.YtgblgbhfgiajiaaGreatDoor
