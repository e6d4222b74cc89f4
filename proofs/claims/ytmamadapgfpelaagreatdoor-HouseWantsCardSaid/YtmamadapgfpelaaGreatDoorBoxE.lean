/- slices.Equal at rows of texts, whatever they are. Condition: none. The walk over box.Right of a box that may be. Condition: flags.system lies as the program's text lays it. The walk over a box's Append where it refuses: what is wrong is told, and the box is as it was. Condition: flags.system lies as the program's text lays it. The walk over slices.Clip at letters. Condition: none. -/
import Derived.Test.YtmamadapgfpelaaGreatDoorBoxA
import Derived.Test.YtmamadapgfpelaaGreatDoorContS
namespace Go.Proofs.YtmamadapgfpelaaGreatDoor
open Go.RowKit Go.Shelf Go.Sort

theorem map_text_inj : ∀ {l m : List (List UInt8)}, (l.map fun t => (⟨t.toArray⟩ : ByteArray)) = (m.map fun t => ⟨t.toArray⟩) → l = m
  | [], [], _ => rfl
  | [], _ :: _, h => by simp at h
  | _ :: _, [], h => by simp at h
  | x :: l, y :: m, h => by
    rw [List.map_cons, List.map_cons] at h
    injection h with h1 h2
    have e : x = y := by
      have := congrArg (fun b : ByteArray => b.data.toList) h1
      simpa using this
    rw [e, map_text_inj h2]
set_option maxRecDepth 100000 in
set_option maxHeartbeats 2000000 in
theorem equal_quiet (v u : Value) (l m : List (List UInt8)) (w : World) (hv : SRow w v l) (hu : SRow w u m) (hl : l.length ≤ 1000000) (hm : m.length ≤ 1000000) :
    Calls Tryz.prog 11 #[v, u] w fun e w' => e = .returned (.bool (decide (l = m))) ∧ ∃ q, w' = w.drewN q := by
  obtain ⟨ao, cap, rfl, hcap, _, hcell⟩ := hv
  obtain ⟨bo, cap', rfl, hcap', _, hcell'⟩ := hu
  by_cases hlen : l.length = m.length
  · cases l with
    | nil =>
      obtain rfl : m = [] := List.eq_nil_of_length_eq_zero (by simpa using hlen.symm)
      exact (Tryz.slices_Equal_string_empty ao bo cap 0 cap' w (by decide)).mono (by rintro e w' ⟨rfl, rfl⟩; exact ⟨rfl, 0, rfl⟩)
    | cons x r =>
      cases m with
      | nil => simp at hlen
      | cons y q =>
        obtain ⟨b, off, rfl, _, _⟩ := hcell 0 x rfl
        obtain ⟨b2, off2, rfl, _, _⟩ := hcell' 0 y rfl
        refine (Tryz.slices_Equal_string b off (x :: r).length cap b2 off2 (y :: q).length cap' ((x :: r).map fun t => ⟨t.toArray⟩) ((y :: q).map fun t => ⟨t.toArray⟩) w (by simp) (by simp) (by omega) (by omega) (fun j hj => ?_) (fun j hj => ?_)).mono ?_
        · obtain ⟨t, ht⟩ : ∃ t, (x :: r)[j]? = some t := ⟨(x :: r)[j]'(by simpa using hj), List.getElem?_eq_getElem _⟩
          obtain ⟨b', off', e1, _, e3⟩ := hcell j t ht
          cases e1
          rw [e3, map_getD _ ht]
        · obtain ⟨t, ht⟩ : ∃ t, (y :: q)[j]? = some t := ⟨(y :: q)[j]'(by simpa using hj), List.getElem?_eq_getElem _⟩
          obtain ⟨b', off', e1, _, e3⟩ := hcell' j t ht
          cases e1
          rw [e3, map_getD _ ht]
        · rintro e w' ⟨rfl, p, rfl⟩
          refine ⟨?_, p, rfl⟩
          rw [List.take_of_length_le (by simp), List.take_of_length_le (by simp)]
          congr 2
          exact decide_eq_decide.2 ⟨map_text_inj, fun h => by rw [h]⟩
  · have hne : decide (l = m) = false := decide_eq_false (fun e => hlen (by rw [e]))
    rw [hne]
    have hz : ¬ ((l.length : Int) = (m.length : Int)) := by omega
    clear hcell hcell' hne
    go_enter Tryz.func11, Tryz.ntmps11
    go_wp2_with fail
    go_ret
    exact ⟨rfl, 0, rfl⟩
theorem equal_all (v u : Value) (l m : List (List UInt8)) (w : World) (hv : SRow w v l) (hu : SRow w u m) (hl : l.length ≤ 1000000) (hm : m.length ≤ 1000000) :
    Calls Tryz.prog 11 #[v, u] w fun e w' => e = .returned (.bool (decide (l = m))) ∧ Below w.heap.size w w' := (equal_quiet v u l m w hv hu hl hm).mono (by
  rintro e w' ⟨rfl, p, rfl⟩
  exact ⟨rfl, ⟨rfl, rfl, rfl, Nat.le_refl _, fun _ _ => rfl⟩⟩)
end Go.Proofs.YtmamadapgfpelaaGreatDoor
namespace Go.Proofs.YtmamadapgfpelaaGreatDoor
open Go.RowKit Go.Shelf Go.Sort

theorem set_is {l x : List (List UInt8)} (hs : setF l = .inr x) (v : Value) (w : World) (hv : SRow w v l) (hl : Short l) (hG : FlagG w) :
    Calls Tryz.prog 51 #[v] w fun e w' => ∃ sv, e = .returned (.tuple #[sv, .nilIface]) ∧ Hid (TRow w' sv x) ∧ Below w.heap.size w w' := by
  refine (set_any v l w hv hl hG).mono ?_
  rw [hs]
  rintro e w' ⟨r, rfl, ⟨sv, rfl, h1⟩, h2⟩
  exact ⟨sv, rfl, h1, h2⟩
theorem set_is2 {l x : List (List UInt8)} (hs : setF l = .inr x) (v : Value) (w : World) (hv : SRow w v l) (hl : Short l) (hG : FlagG w) :
    Calls Tryz.prog 51 #[v] w fun e w' => ∃ sa sc, e = .returned (.tuple #[.slice sa x.length sc, .nilIface]) ∧ Hid (TRow w' (.slice sa x.length sc) x) ∧ Below w.heap.size w w' := (set_is hs v w hv hl hG).mono (by
  rintro e w' ⟨sv, rfl, h1, h2⟩
  have h1' := h1.out.1
  obtain ⟨sa, sc, rfl, _⟩ := h1'
  exact ⟨sa, sc, rfl, h1, h2⟩)
theorem flags_short {f : List (List UInt8)} (h : setF f = .inr f) : Short f := ⟨by have := (set_ok h).2.2; omega, fun t ht => by have := set_short h t ht; omega⟩
theorem four_cells {w : World} {U : Nat} {a b c d : Value} {t : TypeId} {fz : Nat × Nat} (h : w.heap[U]? = some (.cells #[a, b, c, d] t fz)) : w.cell? ⟨U, 0, none⟩ = some a ∧ w.cell? ⟨U, 1, none⟩ = some b ∧ w.cell? ⟨U, 2, none⟩ = some c ∧ w.cell? ⟨U, 3, none⟩ = some d :=
  ⟨by rw [Lib.cell_of_heap h]; rfl, by rw [Lib.cell_of_heap h]; rfl, by rw [Lib.cell_of_heap h]; rfl, by rw [Lib.cell_of_heap h]; rfl⟩

end Go.Proofs.YtmamadapgfpelaaGreatDoor
namespace Go.Proofs.YtmamadapgfpelaaGreatDoor
open Go.RowKit Go.Shelf Go.Sort

theorem set_isnt {l : List (List UInt8)} {n : Nat} (hs : setF l = .inl n) (v : Value) (w : World) (hv : SRow w v l) (hl : Short l) (hG : FlagG w) :
    Calls Tryz.prog 51 #[v] w fun e w' => e = .returned (.tuple #[.slice none 0 0, .iface 31 (.int .i64 (n : Int))]) ∧ Below w.heap.size w w' := by
  refine (set_any v l w hv hl hG).mono ?_
  rw [hs]
  rintro e w' ⟨r, rfl, h1, h2⟩
  have h1' : r = .tuple #[.slice none 0 0, .iface 31 (.int .i64 (n : Int))] := h1
  exact ⟨by rw [h1'], h2⟩
set_option maxRecDepth 100000 in
set_option maxHeartbeats 4000000 in
theorem app_bad (B : Nat) (b : BoxP) (l : List (List UInt8)) (fv : Value) (day : Int) (text : List UInt8) (n : Nat) (w : World) (hb : BoxAt w B b) (hf : SRow w fv l) (hl : Short l) (ht : text.length ≤ 1000000) (hG : FlagG w) (hbad : (appB b l day text).1 = .inl n) (hll : b.ls.length ≤ 1000000) :
    Calls Tryz.prog 28 #[.pointer (some ⟨B, 0, none⟩), fv, .int .i64 day, .string ⟨text.toArray⟩] w fun e w' => e = .returned (.tuple #[.int .i64 0, .iface 31 (.int .i64 (n : Int))]) ∧ Below w.heap.size w w' := by
  obtain ⟨lv, hB, hv⟩ := hb
  obtain ⟨ao, cap, rfl, _⟩ := hv
  have hBl : B < w.heap.size := (Array.getElem?_eq_some_iff.1 hB).1
  have d1 : w.cell? ⟨B, 1, none⟩ = some (.int .i64 b.next) := by rw [Lib.cell_of_heap hB]; rfl
  have d2 : w.cell? ⟨B, 2, none⟩ = some (.slice ao b.ls.length cap) := by rw [Lib.cell_of_heap hB]; rfl
  have hts := text_size text
  unfold appB maxN at hbad
  cases hs : setF l with
  | inl m =>
    have cS := set_isnt hs fv w hf hl hG
    by_cases h2 : 2000 < text.length
    · rw [if_pos h2] at hbad
      cases hbad
      have h2z : (2000 : Int) < (text.length : Int) := by omega
      clear hs hB
      go_enter Tryz.func28, Tryz.ntmps28
      go_wp2_with (go_at_call 51; go_loud ((with_reducible refine cS.mono ?_); rintro e w1 ⟨rfl, h⟩))
      go_ret2
      exact ⟨rfl, h⟩
    · rw [if_neg h2, hs] at hbad
      cases hbad
      have h2z : ¬ ((2000 : Int) < (text.length : Int)) := by omega
      clear hs hB
      go_enter Tryz.func28, Tryz.ntmps28
      go_wp2_with (go_at_call 51; go_loud ((with_reducible refine cS.mono ?_); rintro e w1 ⟨rfl, h⟩))
      go_ret2
      exact ⟨rfl, h⟩
  | inr f =>
    have cS := set_is hs fv w hf hl hG
    by_cases h2 : 2000 < text.length
    · rw [if_pos h2] at hbad
      cases hbad
      have h2z : (2000 : Int) < (text.length : Int) := by omega
      clear hs hB
      go_enter Tryz.func28, Tryz.ntmps28
      go_wp2_with (go_at_call 51; go_loud ((with_reducible refine cS.mono ?_); rintro e w1 ⟨sv, rfl, _, h⟩))
      go_ret2
      exact ⟨rfl, h⟩
    · rw [if_neg h2, hs] at hbad
      have h2z : ¬ ((2000 : Int) < (text.length : Int)) := by omega
      simp only at hbad
      by_cases hd : day < 0 ∨ 2147483647 < day
      · rw [if_pos hd] at hbad
        cases hbad
        clear hs hB
        rcases hd with hd | hd
        · go_enter Tryz.func28, Tryz.ntmps28
          go_wp2_with (go_at_call 51; go_loud ((with_reducible refine cS.mono ?_); rintro e w1 ⟨sv, rfl, _, h⟩))
          go_ret2
          exact ⟨rfl, h⟩
        · have hd0 : ¬ day < 0 := by omega
          go_enter Tryz.func28, Tryz.ntmps28
          go_wp2_with (go_at_call 51; go_loud ((with_reducible refine cS.mono ?_); rintro e w1 ⟨sv, rfl, _, h⟩))
          go_ret2
          exact ⟨rfl, h⟩
      · rw [if_neg hd] at hbad
        have hd0 : ¬ day < 0 := by omega
        have hd1 : ¬ 2147483647 < day := by omega
        by_cases hq : 60 ≤ b.ls.length ∨ 2147483647 ≤ b.next
        · rw [if_pos hq] at hbad
          cases hbad
          clear hs hB
          rcases Nat.lt_or_ge b.ls.length 60 with h6 | h6
          · have hn : 2147483647 ≤ b.next := by omega
            have h6z : ¬ ((60 : Int) ≤ (b.ls.length : Int)) := by omega
            go_enter Tryz.func28, Tryz.ntmps28
            go_wp2_with (go_at_call 51; go_loud ((with_reducible refine cS.mono ?_); rintro e w1 ⟨sv, rfl, _, h⟩; have d1 := (h.cell (p := ⟨B, 1, none⟩) hBl).trans d1; have d2 := (h.cell (p := ⟨B, 2, none⟩) hBl).trans d2))
            go_ret2
            exact ⟨rfl, h⟩
          · have h6z : (60 : Int) ≤ (b.ls.length : Int) := by omega
            go_enter Tryz.func28, Tryz.ntmps28
            go_wp2_with (go_at_call 51; go_loud ((with_reducible refine cS.mono ?_); rintro e w1 ⟨sv, rfl, _, h⟩; have d1 := (h.cell (p := ⟨B, 1, none⟩) hBl).trans d1; have d2 := (h.cell (p := ⟨B, 2, none⟩) hBl).trans d2))
            go_ret2
            exact ⟨rfl, h⟩
        · rw [if_neg hq] at hbad
          cases hbad
end Go.Proofs.YtmamadapgfpelaaGreatDoor
namespace Go.Proofs.YtmamadapgfpelaaGreatDoor
open Go.RowKit Go.Shelf Go.Sort

set_option maxRecDepth 100000 in
set_option maxHeartbeats 2000000 in
theorem clip_any (ao : Option Addr) (n cap : Nat) (w : World) (h : n ≤ cap) (hc : cap ≤ 9223372036854775807) (hn : ao = none → cap = 0) :
    Calls Tryz.prog 52 #[.slice ao n cap] w fun e w' => e = .returned (.slice ao n n) ∧ w = w' := by
  go_enter Tryz.func52, Tryz.ntmps52
  go_wp2_with fail
  go_ret
  exact ⟨rfl, rfl⟩
end Go.Proofs.YtmamadapgfpelaaGreatDoor
