/- slices.Equal at rows of texts, whatever they are. Condition: none. The walk over box.Right of a box that may be. Condition: flags.system lies as the program's text lays it. The walk over a box's Append where it refuses: what is wrong is told, and the box is as it was. Condition: flags.system lies as the program's text lays it. The walk over slices.Clip at letters. Condition: none. Rows of letters by their cells; the walk over slices.Clone at letters. Condition: none. -/
import Derived.Lib.SliceRun
import Derived.Test.YteclajckkjocnaaGreatDoorPkContS
import Derived.Test.YteclajckkjocnaaGreatDoorPkBoxA
namespace Go.Proofs.YteclajckkjocnaaGreatDoor
open Go.RowKit Go.Shelf Go.Sort
set_option linter.unusedSimpArgs false
theorem map_text_inj : ∀ {l m : List (List UInt8)}, (l.map fun t => (⟨t.toArray⟩ : ByteArray)) = (m.map fun t => ⟨t.toArray⟩) → l = m
  | [], [], _ => rfl
  | [], _ :: _, h => by simp at h
  | _ :: _, [], h => by simp at h
  | x :: l, y :: m, h => by
    rw [List.map_cons, List.map_cons] at h
    injection h with h1 h2
    have e : x = y := by
      have := congrArg (fun b : ByteArray => b.data.toList) h1
      simpa using this
    rw [e, map_text_inj h2]
set_option maxRecDepth 100000 in
set_option maxHeartbeats 2000000 in
theorem equal_quiet (v u : Value) (l m : List (List UInt8)) (w : World) (hv : SRow w v l) (hu : SRow w u m) (hl : l.length ≤ 1000000) (hm : m.length ≤ 1000000) :
    Calls Tryz.prog 17 #[v, u] w fun e w' => e = .returned (.bool (decide (l = m))) ∧ ∃ q, w' = w.drewN q := by
  obtain ⟨ao, cap, rfl, hcap, _, hcell⟩ := hv
  obtain ⟨bo, cap', rfl, hcap', _, hcell'⟩ := hu
  by_cases hlen : l.length = m.length
  · cases l with
    | nil =>
      obtain rfl : m = [] := List.eq_nil_of_length_eq_zero (by simpa using hlen.symm)
      exact (Tryz.slices_Equal_string_empty ao bo cap 0 cap' w (by decide)).mono (by rintro e w' ⟨rfl, rfl⟩; exact ⟨rfl, 0, rfl⟩)
    | cons x r =>
      cases m with
      | nil => simp at hlen
      | cons y q =>
        obtain ⟨b, off, rfl, _, _⟩ := hcell 0 x rfl
        obtain ⟨b2, off2, rfl, _, _⟩ := hcell' 0 y rfl
        refine (Tryz.slices_Equal_string b off (x :: r).length cap b2 off2 (y :: q).length cap' ((x :: r).map fun t => ⟨t.toArray⟩) ((y :: q).map fun t => ⟨t.toArray⟩) w (by simp) (by simp) (by omega) (by omega) (fun j hj => ?_) (fun j hj => ?_)).mono ?_
        · obtain ⟨t, ht⟩ : ∃ t, (x :: r)[j]? = some t := ⟨(x :: r)[j]'(by simpa using hj), List.getElem?_eq_getElem _⟩
          obtain ⟨b', off', e1, _, e3⟩ := hcell j t ht
          cases e1
          rw [e3, map_getD _ ht]
        · obtain ⟨t, ht⟩ : ∃ t, (y :: q)[j]? = some t := ⟨(y :: q)[j]'(by simpa using hj), List.getElem?_eq_getElem _⟩
          obtain ⟨b', off', e1, _, e3⟩ := hcell' j t ht
          cases e1
          rw [e3, map_getD _ ht]
        · rintro e w' ⟨rfl, p, rfl⟩
          refine ⟨?_, p, rfl⟩
          rw [List.take_of_length_le (by simp), List.take_of_length_le (by simp)]
          congr 2
          exact decide_eq_decide.2 ⟨map_text_inj, fun h => by rw [h]⟩
  · have hne : decide (l = m) = false := decide_eq_false (fun e => hlen (by rw [e]))
    rw [hne]
    have hz : ¬ ((l.length : Int) = (m.length : Int)) := by omega
    clear hcell hcell' hne
    go_enter Tryz.func17, Tryz.ntmps17
    go_wp2_with fail
    go_ret
    exact ⟨rfl, 0, rfl⟩
theorem equal_all (v u : Value) (l m : List (List UInt8)) (w : World) (hv : SRow w v l) (hu : SRow w u m) (hl : l.length ≤ 1000000) (hm : m.length ≤ 1000000) :
    Calls Tryz.prog 17 #[v, u] w fun e w' => e = .returned (.bool (decide (l = m))) ∧ Below w.heap.size w w' := (equal_quiet v u l m w hv hu hl hm).mono (by
  rintro e w' ⟨rfl, p, rfl⟩
  exact ⟨rfl, ⟨rfl, rfl, rfl, Nat.le_refl _, fun _ _ => rfl⟩⟩)
end Go.Proofs.YteclajckkjocnaaGreatDoor
namespace Go.Proofs.YteclajckkjocnaaGreatDoor
open Go.RowKit Go.Shelf Go.Sort
set_option linter.unusedSimpArgs false
theorem set_is {l x : List (List UInt8)} (hs : setF l = .inr x) (v : Value) (w : World) (hv : SRow w v l) (hl : Short l) (hG : FlagG w) :
    Calls Tryz.prog 16 #[v] w fun e w' => ∃ sv, e = .returned (.tuple #[sv, .nilIface]) ∧ Hid (TRow w' sv x) ∧ Below w.heap.size w w' := by
  refine (set_any v l w hv hl hG).mono ?_
  rw [hs]
  rintro e w' ⟨r, rfl, ⟨sv, rfl, h1⟩, h2⟩
  exact ⟨sv, rfl, h1, h2⟩
theorem set_is2 {l x : List (List UInt8)} (hs : setF l = .inr x) (v : Value) (w : World) (hv : SRow w v l) (hl : Short l) (hG : FlagG w) :
    Calls Tryz.prog 16 #[v] w fun e w' => ∃ sa sc, e = .returned (.tuple #[.slice sa x.length sc, .nilIface]) ∧ Hid (TRow w' (.slice sa x.length sc) x) ∧ Below w.heap.size w w' := (set_is hs v w hv hl hG).mono (by
  rintro e w' ⟨sv, rfl, h1, h2⟩
  have h1' := h1.out.1
  obtain ⟨sa, sc, rfl, _⟩ := h1'
  exact ⟨sa, sc, rfl, h1, h2⟩)
theorem flags_short {f : List (List UInt8)} (h : setF f = .inr f) : Short f := ⟨by have := (set_ok h).2.2; omega, fun t ht => by have := set_short h t ht; omega⟩
theorem four_cells {w : World} {U : Nat} {a b c d : Value} {t : TypeId} {fz : Nat × Nat} (h : w.heap[U]? = some (.cells #[a, b, c, d] t fz)) : w.cell? ⟨U, 0, none⟩ = some a ∧ w.cell? ⟨U, 1, none⟩ = some b ∧ w.cell? ⟨U, 2, none⟩ = some c ∧ w.cell? ⟨U, 3, none⟩ = some d :=
  ⟨by rw [Lib.cell_of_heap h]; rfl, by rw [Lib.cell_of_heap h]; rfl, by rw [Lib.cell_of_heap h]; rfl, by rw [Lib.cell_of_heap h]; rfl⟩
end Go.Proofs.YteclajckkjocnaaGreatDoor
namespace Go.Proofs.YteclajckkjocnaaGreatDoor
open Go.RowKit Go.Shelf Go.Sort
set_option linter.unusedSimpArgs false
theorem set_isnt {l : List (List UInt8)} {n : Nat} (hs : setF l = .inl n) (v : Value) (w : World) (hv : SRow w v l) (hl : Short l) (hG : FlagG w) :
    Calls Tryz.prog 16 #[v] w fun e w' => e = .returned (.tuple #[.slice none 0 0, .iface 59 (.int .i64 (n : Int))]) ∧ Below w.heap.size w w' := by
  refine (set_any v l w hv hl hG).mono ?_
  rw [hs]
  rintro e w' ⟨r, rfl, h1, h2⟩
  have h1' : r = .tuple #[.slice none 0 0, .iface 59 (.int .i64 (n : Int))] := h1
  exact ⟨by rw [h1'], h2⟩
set_option maxRecDepth 100000 in
set_option maxHeartbeats 4000000 in
theorem app_bad (B : Nat) (b : BoxP) (l : List (List UInt8)) (fv : Value) (day : Int) (text : List UInt8) (n : Nat) (w : World) (hb : BoxAt w B b) (hf : SRow w fv l) (hl : Short l) (ht : text.length ≤ 1000000) (hG : FlagG w) (hbad : (appB b l day text).1 = .inl n) (hll : b.ls.length ≤ 1000000) :
    Calls Tryz.prog 24 #[.pointer (some ⟨B, 0, none⟩), fv, .int .i64 day, .string ⟨text.toArray⟩] w fun e w' => e = .returned (.tuple #[.int .i64 0, .iface 59 (.int .i64 (n : Int))]) ∧ Below w.heap.size w w' := by
  obtain ⟨lv, hB, hv⟩ := hb
  obtain ⟨ao, cap, rfl, _⟩ := hv
  have hBl : B < w.heap.size := (Array.getElem?_eq_some_iff.1 hB).1
  have d1 : w.cell? ⟨B, 1, none⟩ = some (.int .i64 b.next) := by rw [Lib.cell_of_heap hB]; rfl
  have d2 : w.cell? ⟨B, 2, none⟩ = some (.slice ao b.ls.length cap) := by rw [Lib.cell_of_heap hB]; rfl
  have hts := text_size text
  unfold appB maxN at hbad
  cases hs : setF l with
  | inl m =>
    have cS := set_isnt hs fv w hf hl hG
    by_cases h2 : 2000 < text.length
    · rw [if_pos h2] at hbad
      cases hbad
      have h2z : (2000 : Int) < (text.length : Int) := by omega
      clear hs hB
      go_enter Tryz.func24, Tryz.ntmps24
      go_wp2_with (go_at_call 16; go_loud ((with_reducible refine cS.mono ?_); rintro e w1 ⟨rfl, h⟩))
      go_ret2
      exact ⟨rfl, h⟩
    · rw [if_neg h2, hs] at hbad
      cases hbad
      have h2z : ¬ ((2000 : Int) < (text.length : Int)) := by omega
      clear hs hB
      go_enter Tryz.func24, Tryz.ntmps24
      go_wp2_with (go_at_call 16; go_loud ((with_reducible refine cS.mono ?_); rintro e w1 ⟨rfl, h⟩))
      go_ret2
      exact ⟨rfl, h⟩
  | inr f =>
    have cS := set_is hs fv w hf hl hG
    by_cases h2 : 2000 < text.length
    · rw [if_pos h2] at hbad
      cases hbad
      have h2z : (2000 : Int) < (text.length : Int) := by omega
      clear hs hB
      go_enter Tryz.func24, Tryz.ntmps24
      go_wp2_with (go_at_call 16; go_loud ((with_reducible refine cS.mono ?_); rintro e w1 ⟨sv, rfl, _, h⟩))
      go_ret2
      exact ⟨rfl, h⟩
    · rw [if_neg h2, hs] at hbad
      have h2z : ¬ ((2000 : Int) < (text.length : Int)) := by omega
      simp only at hbad
      by_cases hd : day < 0 ∨ 2147483647 < day
      · rw [if_pos hd] at hbad
        cases hbad
        clear hs hB
        rcases hd with hd | hd
        · go_enter Tryz.func24, Tryz.ntmps24
          go_wp2_with (go_at_call 16; go_loud ((with_reducible refine cS.mono ?_); rintro e w1 ⟨sv, rfl, _, h⟩))
          go_ret2
          exact ⟨rfl, h⟩
        · have hd0 : ¬ day < 0 := by omega
          go_enter Tryz.func24, Tryz.ntmps24
          go_wp2_with (go_at_call 16; go_loud ((with_reducible refine cS.mono ?_); rintro e w1 ⟨sv, rfl, _, h⟩))
          go_ret2
          exact ⟨rfl, h⟩
      · rw [if_neg hd] at hbad
        have hd0 : ¬ day < 0 := by omega
        have hd1 : ¬ 2147483647 < day := by omega
        by_cases hq : 60 ≤ b.ls.length ∨ 2147483647 ≤ b.next
        · rw [if_pos hq] at hbad
          cases hbad
          clear hs hB
          rcases Nat.lt_or_ge b.ls.length 60 with h6 | h6
          · have hn : 2147483647 ≤ b.next := by omega
            have h6z : ¬ ((60 : Int) ≤ (b.ls.length : Int)) := by omega
            go_enter Tryz.func24, Tryz.ntmps24
            go_wp2_with (go_at_call 16; go_loud ((with_reducible refine cS.mono ?_); rintro e w1 ⟨sv, rfl, _, h⟩; have d1 := (h.cell (p := ⟨B, 1, none⟩) hBl).trans d1; have d2 := (h.cell (p := ⟨B, 2, none⟩) hBl).trans d2))
            go_ret2
            exact ⟨rfl, h⟩
          · have h6z : (60 : Int) ≤ (b.ls.length : Int) := by omega
            go_enter Tryz.func24, Tryz.ntmps24
            go_wp2_with (go_at_call 16; go_loud ((with_reducible refine cS.mono ?_); rintro e w1 ⟨sv, rfl, _, h⟩; have d1 := (h.cell (p := ⟨B, 1, none⟩) hBl).trans d1; have d2 := (h.cell (p := ⟨B, 2, none⟩) hBl).trans d2))
            go_ret2
            exact ⟨rfl, h⟩
        · rw [if_neg hq] at hbad
          cases hbad
end Go.Proofs.YteclajckkjocnaaGreatDoor
namespace Go.Proofs.YteclajckkjocnaaGreatDoor
open Go.RowKit Go.Shelf Go.Sort
set_option linter.unusedSimpArgs false
set_option maxRecDepth 100000 in
set_option maxHeartbeats 2000000 in
theorem clip_any (ao : Option Addr) (n cap : Nat) (w : World) (h : n ≤ cap) (_hc : cap ≤ 9223372036854775807) (_hn : ao = none → cap = 0) :
    Calls Tryz.prog 48 #[.slice ao n cap] w fun e w' => e = .returned (.slice ao n n) ∧ w = w' := by
  go_enter Tryz.func48, Tryz.ntmps48
  go_wp2_with fail
  go_ret
  exact ⟨rfl, rfl⟩
end Go.Proofs.YteclajckkjocnaaGreatDoor
namespace Go.Proofs.YteclajckkjocnaaGreatDoor
open Go.RowKit Go.Shelf Go.Sort
set_option linter.unusedSimpArgs false
/-- a letter's four cells -/
def cells1 (z : Let × Value) : List Value := [.int .i64 z.1.uid, z.2, .int .i64 z.1.day, .string ⟨z.1.text.toArray⟩]
def cellsL : List (Let × Value) → List Value
  | [] => []
  | z :: r => cells1 z ++ cellsL r
theorem cellsL_len : ∀ zs : List (Let × Value), (cellsL zs).length = zs.length * 4
  | [] => rfl
  | z :: r => by show (cells1 z ++ cellsL r).length = _; rw [List.length_append, cellsL_len r]; show 4 + r.length * 4 = (r.length + 1) * 4; omega
theorem cellsL_app : ∀ (a b : List (Let × Value)), cellsL (a ++ b) = cellsL a ++ cellsL b
  | [], b => rfl
  | z :: r, b => by show cells1 z ++ cellsL (r ++ b) = cells1 z ++ cellsL r ++ cellsL b; rw [cellsL_app r b, List.append_assoc]
theorem cellsL_get : ∀ (zs : List (Let × Value)) (j i : Nat), i < 4 → (cellsL zs)[j * 4 + i]? = (zs[j]?).bind fun z => (cells1 z)[i]?
  | [], j, i, _ => by simp [cellsL]
  | z :: r, 0, i, hi => by
    show (cells1 z ++ cellsL r)[0 * 4 + i]? = _
    rw [Nat.zero_mul, Nat.zero_add, List.getElem?_append_left (by show i < 4; exact hi)]
    rfl
  | z :: r, j + 1, i, hi => by
    show (cells1 z ++ cellsL r)[(j + 1) * 4 + i]? = _
    rw [List.getElem?_append_right (by show 4 ≤ _; omega)]
    show (cellsL r)[(j + 1) * 4 + i - 4]? = _
    rw [show (j + 1) * 4 + i - 4 = j * 4 + i by omega, cellsL_get r j i hi]
    rfl
/-- a row of letters, with its flags' values told -/
def ZRow (w : World) (v : Value) (zs : List (Let × Value)) : Prop := ∃ ao cap, v = .slice ao zs.length cap ∧ zs.length ≤ cap ∧ (cap ≤ 9223372036854775807 ∧ (ao = none → cap = 0)) ∧ (∀ z ∈ zs, SRow w z.2 z.1.flags) ∧ ∀ (j : Nat) (u : Value), (cellsL zs)[j]? = some u → ∃ b off, ao = some ⟨b, off, none⟩ ∧ b < w.heap.size ∧ w.cell? ⟨b, off + j, none⟩ = some u
theorem lrow_of {w : World} {v : Value} {zs : List (Let × Value)} (h : ZRow w v zs) : LRow w v (zs.map (·.1)) := by
  obtain ⟨ao, cap, rfl, h2, h3, h4, h5⟩ := h
  refine ⟨ao, cap, by rw [List.length_map], by rw [List.length_map]; exact h2, h3, fun j x hj => ?_⟩
  rw [List.getElem?_map] at hj
  obtain ⟨z, hz, rfl⟩ := Option.map_eq_some_iff.1 hj
  have hc : ∀ i, i < 4 → (cellsL zs)[j * 4 + i]? = (cells1 z)[i]? := fun i hi => by rw [cellsL_get _ _ _ hi, hz]; rfl
  obtain ⟨b, off, e1, e2, c0⟩ := h5 (j * 4 + 0) _ (hc 0 (by omega))
  subst e1
  have hc2 : ∀ i u, i < 4 → (cells1 z)[i]? = some u → w.cell? ⟨b, off + (j * 4 + i), none⟩ = some u := fun i u hi hu => by
    obtain ⟨b', off', e1, _, c⟩ := h5 (j * 4 + i) u ((hc i hi).trans hu)
    cases e1
    exact c
  exact ⟨b, off, z.2, rfl, e2, h4 z (List.mem_of_getElem? hz), c0, hc2 1 _ (by omega) rfl, hc2 2 _ (by omega) rfl, hc2 3 _ (by omega) rfl⟩
theorem zrow_owns {w : World} {B : Nat} {v : Value} {zs : List (Let × Value)} (h : w.ownsRow B 51 4 v zs.length (cellsL zs)) (hs : ∀ z ∈ zs, SRow w z.2 z.1.flags) : ZRow w v zs := by
  rcases h.2 with ⟨rfl, h0⟩ | ⟨g, cap, cur, rfl, hg, hh, h3, h4, h5, h6⟩
  · obtain rfl : zs = [] := List.eq_nil_of_length_eq_zero h0
    exact ⟨none, 0, rfl, Nat.le_refl _, ⟨by decide, fun _ => rfl⟩, hs, fun j u hj => by simp [cellsL] at hj⟩
  · refine ⟨some ⟨g, 0, none⟩, cap, rfl, h3, ⟨by unfold maxLen at h4; omega, fun h => by cases h⟩, hs, fun j u hj => ⟨g, 0, rfl, (Array.getElem?_eq_some_iff.1 hh).1, ?_⟩⟩
    rw [Nat.zero_add, Lib.cell_of_heap hh]
    rw [← h6] at hj
    rw [List.getElem?_take] at hj
    split at hj
    · simpa using hj
    · cases hj
theorem ZRow.below {w w' : World} {v : Value} {zs : List (Let × Value)} (h : ZRow w v zs) (hb : Below w.heap.size w w') : ZRow w' v zs := by
  obtain ⟨ao, cap, h1, h2, h3, h4, h5⟩ := h
  refine ⟨ao, cap, h1, h2, h3, fun z hz => (h4 z hz).below hb, fun j u hj => ?_⟩
  obtain ⟨b, off, e1, e2, c⟩ := h5 j u hj
  exact ⟨b, off, e1, Nat.lt_of_lt_of_le e2 hb.size, (hb.cell e2).trans c⟩
theorem cellsL_one {zs : List (Let × Value)} (hs : ∀ z ∈ zs, ∃ w : World, SRow w z.2 z.1.flags) : ∀ u ∈ cellsL zs, u.oneCell' = true := by
  induction zs with
  | nil => intro u hu; cases hu
  | cons z r ih =>
    intro u hu
    rcases List.mem_append.1 (show u ∈ cells1 z ++ cellsL r from hu) with h | h
    · obtain ⟨w, ao, cap, e, _⟩ := hs z (List.mem_cons_self ..)
      simp only [cells1, List.mem_cons, List.not_mem_nil, or_false] at h
      rcases h with rfl | rfl | rfl | rfl
      · rfl
      · rw [e]; rfl
      · rfl
      · rfl
    · exact ih (fun z hz => hs z (List.mem_cons_of_mem _ hz)) u h
/-- a block of strings, or of letters -/
def Lettered (w : World) (b : Nat) : Prop := ∃ cur T fz, w.heap[b]? = some (.cells cur T fz) ∧ (T = 9 ∨ T = 51)
/-- a block that nothing writes: from before N, or of strings or letters -/
def Safe (N : Nat) (w : World) (b : Nat) : Prop := b < w.heap.size ∧ (b < N ∨ Lettered w b)
def SafeV (N : Nat) (w : World) (v : Value) : Prop := ∀ a n c, v = .slice (some a) n c → 0 < c → Safe N w a.block
theorem safe_tag {N : Nat} {w : World} {v : Value} (h : STag w v) : SafeV N w v := fun a n c e _ => by
  obtain ⟨cur, fz, hh⟩ := h a n c e
  exact ⟨(Array.getElem?_eq_some_iff.1 hh).1, Or.inr ⟨cur, _, fz, hh, Or.inl rfl⟩⟩
theorem safe_owns {N : Nat} {w : World} {B n : Nat} {v : Value} {xs : List Value} (h : w.ownsRow B 51 4 v n xs) : SafeV N w v := fun a n' c e _ => by
  rcases h.2 with ⟨rfl, _⟩ | ⟨g, cap, cur, rfl, _, hh, _⟩
  · cases e
  · cases e; exact ⟨(Array.getElem?_eq_some_iff.1 hh).1, Or.inr ⟨cur, _, _, hh, Or.inr rfl⟩⟩
/-- what writes leaves what is safe -/
def Spares (N : Nat) (w : World) (S : Nat → Prop) : Prop := ∀ k, k < w.heap.size → S k → N ≤ k ∧ ¬ Lettered w k
theorem Safe.out {N : Nat} {w : World} {S : Nat → Prop} {b : Nat} (h : Safe N w b) (hs : Spares N w S) : ¬ S b := fun e => by
  obtain ⟨h1, h2⟩ := hs b h.1 e
  rcases h.2 with h3 | h3
  · omega
  · exact h2 h3
theorem Safe.kept {N : Nat} {w w' : World} {S : Nat → Prop} {b : Nat} (h : Safe N w b) (hk : Kept S w w') (hs : Spares N w S) : Safe N w' b := ⟨Nat.lt_of_lt_of_le h.1 hk.size, h.2.imp id fun ⟨cur, T, fz, hh, hT⟩ => ⟨cur, T, fz, hk.obj hh (h.out hs), hT⟩⟩
theorem SafeV.kept {N : Nat} {w w' : World} {S : Nat → Prop} {v : Value} (h : SafeV N w v) (hk : Kept S w w') (hs : Spares N w S) : SafeV N w' v := fun a n c e hc => (h a n c e hc).kept hk hs
theorem kept_cell {N : Nat} {w w' : World} {S : Nat → Prop} (hk : Kept S w w') (hs : Spares N w S) {b : Nat} (h : Safe N w b) (i : Nat) : w'.cell? ⟨b, i, none⟩ = w.cell? ⟨b, i, none⟩ := World.cell?_of_block (hk.block b h.1 (h.out hs))
theorem SRow.kept {N : Nat} {w w' : World} {S : Nat → Prop} {v : Value} {l : List (List UInt8)} (h : SRow w v l) (h2 : SafeV N w v) (hk : Kept S w w') (hs : Spares N w S) : SRow w' v l := by
  obtain ⟨ao, cap, rfl, e2, e3, e4⟩ := h
  refine ⟨ao, cap, rfl, e2, e3, fun j t hj => ?_⟩
  obtain ⟨b, off, rfl, c1, c2⟩ := e4 j t hj
  exact ⟨b, off, rfl, Nat.lt_of_lt_of_le c1 hk.size, (kept_cell hk hs (h2 _ _ _ rfl (by have := (List.getElem?_eq_some_iff.1 hj).1; omega)) _).trans c2⟩
theorem ZRow.kept {N : Nat} {w w' : World} {S : Nat → Prop} {v : Value} {zs : List (Let × Value)} (h : ZRow w v zs) (h2 : SafeV N w v) (h3 : ∀ z ∈ zs, SafeV N w z.2) (hk : Kept S w w') (hs : Spares N w S) : ZRow w' v zs := by
  obtain ⟨ao, cap, rfl, e2, e3, e4, e5⟩ := h
  refine ⟨ao, cap, rfl, e2, e3, fun z hz => (e4 z hz).kept (h3 z hz) hk hs, fun j t hj => ?_⟩
  obtain ⟨b, off, rfl, c1, c2⟩ := e5 j t hj
  exact ⟨b, off, rfl, Nat.lt_of_lt_of_le c1 hk.size, (kept_cell hk hs (h2 _ _ _ rfl (by have := (List.getElem?_eq_some_iff.1 hj).1; rw [cellsL_len] at this; omega)) _).trans c2⟩
/-- a row of letters that nothing writes -/
def XRow (N : Nat) (w : World) (v : Value) (zs : List (Let × Value)) : Prop := ZRow w v zs ∧ SafeV N w v ∧ ∀ z ∈ zs, SafeV N w z.2
theorem XRow.kept {N : Nat} {w w' : World} {S : Nat → Prop} {v : Value} {zs : List (Let × Value)} (h : XRow N w v zs) (hk : Kept S w w') (hs : Spares N w S) : XRow N w' v zs := ⟨h.1.kept h.2.1 h.2.2 hk hs, h.2.1.kept hk hs, fun z hz => (h.2.2 z hz).kept hk hs⟩
theorem spares_none (N : Nat) (w : World) : Spares N w (fun _ => False) := fun _ _ h => h.elim
theorem XRow.below {N : Nat} {w w' : World} {v : Value} {zs : List (Let × Value)} (h : XRow N w v zs) (hb : Below w.heap.size w w') : XRow N w' v zs := h.kept (kept_below hb) (spares_none N w)
theorem SafeV.below {N : Nat} {w w' : World} {v : Value} (h : SafeV N w v) (hb : Below w.heap.size w w') : SafeV N w' v := h.kept (kept_below hb) (spares_none N w)
/-- a box lies in a block, and nothing writes its letters -/
def BoxS (N : Nat) (w : World) (B : Nat) (b : BoxP) : Prop := ∃ lv zs, w.heap[B]? = some (.cells #[.int .i64 b.valid, .int .i64 b.next, lv] 28 (0, 0)) ∧ zs.map (·.1) = b.ls ∧ XRow N w lv zs
theorem BoxS.at {N : Nat} {w : World} {B : Nat} {b : BoxP} (h : BoxS N w B b) : BoxAt w B b := by
  obtain ⟨lv, zs, h1, h2, h3, _⟩ := h
  exact ⟨lv, h1, h2 ▸ lrow_of h3⟩
/-- the row of letters that a box's block names -/
def LvOf (w : World) (B : Nat) (lv : Value) : Prop := ∃ a c T fz, w.heap[B]? = some (.cells #[a, c, lv] T fz)
theorem lvOf_eq {w : World} {B : Nat} {lv lv' : Value} (h : LvOf w B lv) (h' : LvOf w B lv') : lv = lv' := by
  obtain ⟨a, c, T, fz, h⟩ := h
  obtain ⟨a', c', T', fz', h'⟩ := h'
  rw [h] at h'
  have e := Obj.cells.inj (Option.some.inj h')
  have e2 := congrArg Array.toList e.1
  simp only [List.cons.injEq, and_true] at e2
  exact e2.2.2
/-- a box's letters lie where they lay, or in a new block -/
def FreshL (w w' : World) (B : Nat) : Prop := ∀ lv lv', LvOf w B lv → LvOf w' B lv' → lv' = lv ∨ ∀ j, lv'.ownBlock = some j → w.heap.size ≤ j
theorem freshL_same {w w' : World} {B : Nat} (h : w'.heap[B]? = w.heap[B]?) : FreshL w w' B := fun _ _ h1 ⟨a, c, T, fz, h2⟩ => Or.inl (lvOf_eq ⟨a, c, T, fz, h ▸ h2⟩ h1)
theorem freshL_new {w w' : World} {B : Nat} {a c lv : Value} {T : TypeId} {fz : Nat × Nat} (h : w'.heap[B]? = some (.cells #[a, c, lv] T fz)) (hf : ∀ j, lv.ownBlock = some j → w.heap.size ≤ j) : FreshL w w' B := fun _ _ _ h' => Or.inr (by rw [lvOf_eq h' ⟨a, c, T, fz, h⟩]; exact hf)
theorem not_lettered {w : World} {k : Nat} {c : Array Value} {T : TypeId} {fz : Nat × Nat} (h : w.heap[k]? = some (.cells c T fz)) (h1 : T ≠ 9) (h2 : T ≠ 51) : ¬ Lettered w k := fun ⟨c', T', fz', hh, hT⟩ => by
  rw [h] at hh
  cases hh
  exact hT.elim h1 h2
theorem spares_box {N : Nat} {w : World} {B : Nat} {b : BoxP} (h : BoxAt w B b) (hN : N ≤ B) : Spares N w (fun k => k = B) := fun k _ e => by
  subst e
  obtain ⟨lv, hB, _⟩ := h
  exact ⟨hN, not_lettered hB (by decide) (by decide)⟩
theorem BoxS.kept {N : Nat} {w w' : World} {B : Nat} {b : BoxP} {S : Nat → Prop} (h : BoxS N w B b) (hk : Kept S w w') (hs : Spares N w S) (hB : ¬ S B) : BoxS N w' B b := by
  obtain ⟨lv, zs, h1, h2, h3⟩ := h
  exact ⟨lv, zs, hk.obj h1 hB, h2, h3.kept hk hs⟩
theorem BoxS.below {N : Nat} {w w' : World} {B : Nat} {b : BoxP} (h : BoxS N w B b) (hb : Below w.heap.size w w') : BoxS N w' B b := h.kept (S := fun _ => False) (kept_below hb) (spares_none N w) id
theorem let_info : (Tryz.prog.info? 51).map (fun i => (i.zero, i.size, i.bytes)) = some (some (.agg #[.int .i64 0, .slice none 0 0, .int .i64 0, .string ByteArray.empty]), 4, 56) := by kernel_rfl
set_option maxRecDepth 100000 in
set_option maxHeartbeats 2000000 in
theorem cloneL_any (v : Value) (zs : List (Let × Value)) (w : World) (hv : ZRow w v zs) (hl : zs.length ≤ 1000000) :
    Calls Tryz.prog 53 #[v] w fun e w' => ∃ v', e = .returned v' ∧ w'.ownsRow w.heap.size 51 4 v' zs.length (cellsL zs) ∧ Below w.heap.size w w' := by
  obtain ⟨ao, cap, rfl, hcap, ⟨hcm, hnone⟩, hf, hcell⟩ := hv
  obtain ⟨i0, hi, hz0, hz1, hz2⟩ := info_parts let_info
  have qE : ∀ (w : World) (a : Option Addr) (n c n' c' : Nat), (binOp .eql 22 (.slice a n c) (.slice none n' c')).run Tryz.prog w = .ok (.bool a.isNone) w := fun w a n c n' c' => Lib.run_eql_slice_nil w _ _ a n c n' c' Tryz.underlying22
  cases ao with
  | none =>
    have h0 : zs.length = 0 := by have := hnone rfl; omega
    obtain rfl : zs = [] := List.eq_nil_of_length_eq_zero h0
    clear hcell hf
    go_enter Tryz.func53, Tryz.ntmps53
    go_wp2_with fail
    go_ret
    exact ⟨_, rfl, World.ownsRow_nil _ _ _ _, Below.refl _ _⟩
  | some p =>
    have H1 := Lib.hid (cellsL_one (fun z hz => ⟨w, hf z hz⟩))
    have HL := Lib.hid (cellsL_len zs)
    have HC : Hid (∀ j u, (cellsL zs)[j]? = some u → (w.alloc (.cells #[] 51)).cell? (p.add j) = some u) := fun j u hj => by
      obtain ⟨b, off, e1, e2, c⟩ := hcell j u hj
      cases e1
      rw [add_pl]
      exact (((Below.refl w.heap.size w).alloc (Nat.le_refl _) _).cell e2).trans c
    clear hcell hf
    go_enter Tryz.func53, Tryz.ntmps53
    go_wp2_with (at_builtin; go_must (refine wpList_append_own _ rfl _ _ 22 rfl w.heap.size 51 i0 _ 4 56 Tryz.underlying22 hi hz0 hz1 hz2 rfl (by decide) _ _ _ rfl (World.ownsRow_made w #[] 0 (Nat.le_refl _) (Nat.zero_le _) rfl) p zs.length cap (cellsL zs) rfl HL.out HC.out H1.out ?c4 ?c5 ?c6 ?_))
    case c4 => unfold maxLen; omega
    case c5 => omega
    case c6 => simp
    intro v' w1 hown hgrow _
    go_wp2_with fail
    go_ret
    exact ⟨v', rfl, by simpa using hown, ((Below.refl _ w).alloc (Nat.le_refl _) _).grown hgrow (by simp) (by intro k hk; simp [Value.ownBlock] at hk; omega)⟩
end Go.Proofs.YteclajckkjocnaaGreatDoor
