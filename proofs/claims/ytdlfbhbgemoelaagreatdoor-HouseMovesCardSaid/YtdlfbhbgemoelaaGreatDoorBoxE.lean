/- slices.Equal at rows of texts, whatever they are. Condition: none. The walk over box.Right of a box that may be. Condition: flags.system lies as the program's text lays it. The walk over a box's Append where it refuses: what is wrong is told, and the box is as it was. Condition: flags.system lies as the program's text lays it. The walk over slices.Clip at letters. Condition: none. -/
import Derived.Test.YtdlfbhbgemoelaaGreatDoorBoxA
import Derived.Test.YtdlfbhbgemoelaaGreatDoorContS
namespace Go.Proofs.YtdlfbhbgemoelaaGreatDoor
open Go.RowKit Go.Shelf Go.Sort

theorem map_text_inj : ∀ {l m : List (List UInt8)}, (l.map fun t => (⟨t.toArray⟩ : ByteArray)) = (m.map fun t => ⟨t.toArray⟩) → l = m
  | [], [], _ => rfl
  | [], _ :: _, h => by simp at h
  | _ :: _, [], h => by simp at h
  | x :: l, y :: m, h => by
    rw [List.map_cons, List.map_cons] at h
    injection h with h1 h2
    have e : x = y := by
      have := congrArg (fun b : ByteArray => b.data.toList) h1
      simpa using this
    rw [e, map_text_inj h2]
set_option maxRecDepth 100000 in
set_option maxHeartbeats 2000000 in
theorem equal_quiet (v u : Value) (l m : List (List UInt8)) (w : World) (hv : SRow w v l) (hu : SRow w u m) (hl : l.length ≤ 1000000) (hm : m.length ≤ 1000000) :
    Calls Tryz.prog 21 #[v, u] w fun e w' => e = .returned (.bool (decide (l = m))) ∧ ∃ q, w' = w.drewN q := by
  obtain ⟨ao, cap, rfl, hcap, _, hcell⟩ := hv
  obtain ⟨bo, cap', rfl, hcap', _, hcell'⟩ := hu
  by_cases hlen : l.length = m.length
  · cases l with
    | nil =>
      obtain rfl : m = [] := List.eq_nil_of_length_eq_zero (by simpa using hlen.symm)
      exact (Tryz.slices_Equal_string_empty ao bo cap 0 cap' w (by decide)).mono (by rintro e w' ⟨rfl, rfl⟩; exact ⟨rfl, 0, rfl⟩)
    | cons x r =>
      cases m with
      | nil => simp at hlen
      | cons y q =>
        obtain ⟨b, off, rfl, _, _⟩ := hcell 0 x rfl
        obtain ⟨b2, off2, rfl, _, _⟩ := hcell' 0 y rfl
        refine (Tryz.slices_Equal_string b off (x :: r).length cap b2 off2 (y :: q).length cap' ((x :: r).map fun t => ⟨t.toArray⟩) ((y :: q).map fun t => ⟨t.toArray⟩) w (by simp) (by simp) (by omega) (by omega) (fun j hj => ?_) (fun j hj => ?_)).mono ?_
        · obtain ⟨t, ht⟩ : ∃ t, (x :: r)[j]? = some t := ⟨(x :: r)[j]'(by simpa using hj), List.getElem?_eq_getElem _⟩
          obtain ⟨b', off', e1, _, e3⟩ := hcell j t ht
          cases e1
          rw [e3, map_getD _ ht]
        · obtain ⟨t, ht⟩ : ∃ t, (y :: q)[j]? = some t := ⟨(y :: q)[j]'(by simpa using hj), List.getElem?_eq_getElem _⟩
          obtain ⟨b', off', e1, _, e3⟩ := hcell' j t ht
          cases e1
          rw [e3, map_getD _ ht]
        · rintro e w' ⟨rfl, p, rfl⟩
          refine ⟨?_, p, rfl⟩
          rw [List.take_of_length_le (by simp), List.take_of_length_le (by simp)]
          congr 2
          exact decide_eq_decide.2 ⟨map_text_inj, fun h => by rw [h]⟩
  · have hne : decide (l = m) = false := decide_eq_false (fun e => hlen (by rw [e]))
    rw [hne]
    have hz : ¬ ((l.length : Int) = (m.length : Int)) := by omega
    clear hcell hcell' hne
    go_enter Tryz.func21, Tryz.ntmps21
    go_wp2_with fail
    go_ret
    exact ⟨rfl, 0, rfl⟩
theorem equal_all (v u : Value) (l m : List (List UInt8)) (w : World) (hv : SRow w v l) (hu : SRow w u m) (hl : l.length ≤ 1000000) (hm : m.length ≤ 1000000) :
    Calls Tryz.prog 21 #[v, u] w fun e w' => e = .returned (.bool (decide (l = m))) ∧ Below w.heap.size w w' := (equal_quiet v u l m w hv hu hl hm).mono (by
  rintro e w' ⟨rfl, p, rfl⟩
  exact ⟨rfl, ⟨rfl, rfl, rfl, Nat.le_refl _, fun _ _ => rfl⟩⟩)
end Go.Proofs.YtdlfbhbgemoelaaGreatDoor
namespace Go.Proofs.YtdlfbhbgemoelaaGreatDoor
open Go.RowKit Go.Shelf Go.Sort

theorem set_is {l x : List (List UInt8)} (hs : setF l = .inr x) (v : Value) (w : World) (hv : SRow w v l) (hl : Short l) (hG : FlagG w) :
    Calls Tryz.prog 48 #[v] w fun e w' => ∃ sv, e = .returned (.tuple #[sv, .nilIface]) ∧ Hid (TRow w' sv x) ∧ Below w.heap.size w w' := by
  refine (set_any v l w hv hl hG).mono ?_
  rw [hs]
  rintro e w' ⟨r, rfl, ⟨sv, rfl, h1⟩, h2⟩
  exact ⟨sv, rfl, h1, h2⟩
theorem set_is2 {l x : List (List UInt8)} (hs : setF l = .inr x) (v : Value) (w : World) (hv : SRow w v l) (hl : Short l) (hG : FlagG w) :
    Calls Tryz.prog 48 #[v] w fun e w' => ∃ sa sc, e = .returned (.tuple #[.slice sa x.length sc, .nilIface]) ∧ Hid (TRow w' (.slice sa x.length sc) x) ∧ Below w.heap.size w w' := (set_is hs v w hv hl hG).mono (by
  rintro e w' ⟨sv, rfl, h1, h2⟩
  have h1' := h1.out.1
  obtain ⟨sa, sc, rfl, _⟩ := h1'
  exact ⟨sa, sc, rfl, h1, h2⟩)
theorem flags_short {f : List (List UInt8)} (h : setF f = .inr f) : Short f := ⟨by have := (set_ok h).2.2; omega, fun t ht => by have := set_short h t ht; omega⟩
theorem four_cells {w : World} {U : Nat} {a b c d : Value} {t : TypeId} {fz : Nat × Nat} (h : w.heap[U]? = some (.cells #[a, b, c, d] t fz)) : w.cell? ⟨U, 0, none⟩ = some a ∧ w.cell? ⟨U, 1, none⟩ = some b ∧ w.cell? ⟨U, 2, none⟩ = some c ∧ w.cell? ⟨U, 3, none⟩ = some d :=
  ⟨by rw [Lib.cell_of_heap h]; rfl, by rw [Lib.cell_of_heap h]; rfl, by rw [Lib.cell_of_heap h]; rfl, by rw [Lib.cell_of_heap h]; rfl⟩

set_option maxHeartbeats 1000000 in
theorem number_any (n : Int) (w : World) (h1 : 1 ≤ n) (h2 : n ≤ 2147483647) :
    Calls Tryz.prog 90 #[.int .i64 n] w fun e w' => e = .returned (.bool true) ∧ w = w' := by
  go_enter Tryz.func90, Tryz.ntmps90
  go_wp2_with fail
  go_ret
  exact ⟨rfl, rfl⟩

set_option maxRecDepth 100000 in
set_option maxHeartbeats 8000000 in
theorem right_any (b : BoxP) (lv : Value) (w : World) (hv : LRow w lv b.ls) (hr : rightB b = true) (hG : FlagG w) :
    Calls Tryz.prog 65 #[.agg #[.int .i64 b.valid, .int .i64 b.next, lv]] w fun e w' => e = .returned (.bool true) ∧ Below w.heap.size w w' := by
  have hr2 := hr
  unfold rightB numB maxN at hr2
  simp only [Bool.and_eq_true, decide_eq_true_eq] at hr2
  obtain ⟨⟨⟨h1, hv1, hv2⟩, hn1, hn2⟩, hll⟩ := hr2
  obtain ⟨ao, cap, rfl, hcap, ⟨hcm, _⟩, hcell⟩ := hv
  have HC := Lib.hid hcell
  have y0 : Below w.heap.size w (w.alloc (.cells #[.int .i64 b.valid, .int .i64 b.next, .slice ao b.ls.length cap] 48)) := (Below.refl _ _).alloc (Nat.le_refl _) _
  have x0 := World.heap_alloc_new w (.cells #[.int .i64 b.valid, .int .i64 b.next, .slice ao b.ls.length cap] 48)
  obtain ⟨W0, hW0⟩ : ∃ W0, w.alloc (.cells #[.int .i64 b.valid, .int .i64 b.next, .slice ao b.ls.length cap] 48) = W0 := ⟨_, rfl⟩
  rw [hW0] at x0 y0
  have HR := Lib.hid h1
  have k0 : W0.cell? ⟨w.heap.size, 0, none⟩ = some (.int .i64 b.valid) := by rw [Lib.cell_of_heap x0]; rfl
  have k1 : W0.cell? ⟨w.heap.size, 1, none⟩ = some (.int .i64 b.next) := by rw [Lib.cell_of_heap x0]; rfl
  have k2 : W0.cell? ⟨w.heap.size, 2, none⟩ = some (.slice ao b.ls.length cap) := by rw [Lib.cell_of_heap x0]; rfl
  have hB0 : w.heap.size < W0.heap.size := (Array.getElem?_eq_some_iff.1 x0).1
  clear x0
  clear hcell hr h1
  obtain ⟨vd, nx, ls⟩ := b
  simp only at *
  go_enter Tryz.func65, Tryz.ntmps65
  go_wp2_with fail
  go_loopg [4, 12] ls.length (fun g s4 s12 wr => ∃ (k : Nat) (last : Int), k + g = ls.length ∧ s12 = .int .i64 (k : Int) ∧ s4 = .int .i64 last ∧ Below W0.heap.size W0 wr ∧ Hid (boxRL nx last (ls.drop k) = true))
  case atStart => exact ⟨0, 0, by omega, rfl, rfl, Below.refl _ _, HR.out⟩
  case round =>
    obtain ⟨k, last, hk, rfl, rfl, hbr, HK⟩ := hrel
    have k0 := (hbr.cell (p := ⟨w.heap.size, 0, none⟩) hB0).trans k0
    have k1 := (hbr.cell (p := ⟨w.heap.size, 1, none⟩) hB0).trans k1
    have k2 := (hbr.cell (p := ⟨w.heap.size, 2, none⟩) hB0).trans k2
    have hBr : w.heap.size < wr.heap.size := Nat.lt_of_lt_of_le hB0 hbr.size
    have yr := y0.trans (hbr.mono y0.size)
    clear HR hW0
    by_cases hlt : k < ls.length
    · obtain ⟨g', rfl⟩ : ∃ g', gk = g' + 1 := ⟨gk - 1, by omega⟩
      obtain ⟨x, hx⟩ : ∃ x, ls[k]? = some x := ⟨ls[k], List.getElem?_eq_getElem hlt⟩
      obtain ⟨b, off, fv, rfl, hb, hf, d0, d1, d2, d3⟩ := HC.out k x hx
      have hc := fun q => yr.cell (p := ⟨b, q, none⟩) hb
      have d0 := (hc _).trans d0
      have d1 := (hc _).trans d1
      have d2 := (hc _).trans d2
      have d3 := (hc _).trans d3
      have hdr : ls.drop k = x :: ls.drop (k + 1) := by
        obtain ⟨hk2, e⟩ := List.getElem?_eq_some_iff.1 hx
        rw [List.drop_eq_getElem_cons hk2, e]
      have hK := HK.out
      rw [hdr] at hK
      unfold boxRL at hK
      rw [Bool.and_eq_true, letOk_iff] at hK
      obtain ⟨⟨e1, e2, e3, e4, e5, e6⟩, hK2⟩ := hK
      have HK2 := Lib.hid hK2
      unfold maxN at e5
      have hfr := hf.below yr
      obtain ⟨fa, fc, rfl, _⟩ := hf
      have hts := text_size x.text
      have q6 : ¬ ((2000 : Int) < (x.text.length : Int)) := by omega
      have yl : Below wr.heap.size wr (wr.alloc (.cells #[.int .i64 x.uid, .slice fa x.flags.length fc, .int .i64 x.day, .string ⟨x.text.toArray⟩] 76)) := (Below.refl _ _).alloc (Nat.le_refl _) _
      have xl := World.heap_alloc_new wr (.cells #[.int .i64 x.uid, .slice fa x.flags.length fc, .int .i64 x.day, .string ⟨x.text.toArray⟩] 76)
      obtain ⟨l0, l1, l2, l3⟩ := four_cells xl
      have hln : wr.heap.size < (wr.alloc (.cells #[.int .i64 x.uid, .slice fa x.flags.length fc, .int .i64 x.day, .string ⟨x.text.toArray⟩] 76)).heap.size := by rw [alloc_size]; exact Nat.lt_succ_self _
      have k1l := (yl.cell (p := ⟨w.heap.size, 1, none⟩) hBr).trans k1
      have cS := set_is e1 _ _ (hfr.below yl) (flags_short e1) ((hG.below yr).below yl)
      have cE := fun v W (h1 : SRow W v x.flags) (h2 : SRow W (.slice fa x.flags.length fc) x.flags) => equal_all v _ x.flags x.flags W h1 h2 (by have := (set_ok e1).2.2; omega) (by have := (set_ok e1).2.2; omega)
      simp only [decide_true] at cE
      have HF := Lib.hid (hfr.below yl)
      clear hc hx hdr hK2 HK e1 e6 hfr xl k0 k2
      go_wp2_with (first
        | (go_at_call 48; go_loud ((with_reducible refine cS.mono ?_); rintro e w1 ⟨sv, rfl, S1, h⟩; have l0 := (h.cell (p := ⟨wr.heap.size, 0, none⟩) hln).trans l0; have l1 := (h.cell (p := ⟨wr.heap.size, 1, none⟩) hln).trans l1; have l2 := (h.cell (p := ⟨wr.heap.size, 2, none⟩) hln).trans l2; have l3 := (h.cell (p := ⟨wr.heap.size, 3, none⟩) hln).trans l3; have y1 := yl.trans (h.mono yl.size); have k1l := (h.cell (p := ⟨w.heap.size, 1, none⟩) (Nat.lt_trans hBr hln)).trans k1l; have F1 := Lib.hid (HF.out.below h)))
        | (go_at_call 21; go_loud ((with_reducible refine (cE _ _ S1.out.row F1.out).mono ?_); rintro e w2 ⟨rfl, h2⟩; have l0 := (h2.cell (p := ⟨wr.heap.size, 0, none⟩) (Nat.lt_of_lt_of_le hln h.size)).trans l0; have l2 := (h2.cell (p := ⟨wr.heap.size, 2, none⟩) (Nat.lt_of_lt_of_le hln h.size)).trans l2; have l3 := (h2.cell (p := ⟨wr.heap.size, 3, none⟩) (Nat.lt_of_lt_of_le hln h.size)).trans l3; have k1l := (h2.cell (p := ⟨w.heap.size, 1, none⟩) (Nat.lt_of_lt_of_le (Nat.lt_trans hBr hln) h.size)).trans k1l; have y2 := y1.trans (h2.mono y1.size))))
      go_roundg g'
      case measure => omega
      case rel => exact ⟨k + 1, x.uid, by omega, by go_num, rfl, hbr.trans (y2.mono hbr.size), HK2.out⟩
    · have hll2 : (ls.length : Int) ≤ 60 := by omega
      have c1 := fun W => number_any vd W hv1 hv2
      have c2 := fun W => number_any nx W hn1 hn2
      clear HK HC hk
      go_wp2_with (first
        | (go_at_call 90; with_reducible refine (c1 _).mono ?_; rintro e w1 ⟨rfl, hw⟩; subst hw)
        | (go_at_call 90; with_reducible refine (c2 _).mono ?_; rintro e w2 ⟨rfl, hw⟩; subst hw))
      go_ret
      exact ⟨rfl, yr⟩
end Go.Proofs.YtdlfbhbgemoelaaGreatDoor
namespace Go.Proofs.YtdlfbhbgemoelaaGreatDoor
open Go.RowKit Go.Shelf Go.Sort

theorem set_isnt {l : List (List UInt8)} {n : Nat} (hs : setF l = .inl n) (v : Value) (w : World) (hv : SRow w v l) (hl : Short l) (hG : FlagG w) :
    Calls Tryz.prog 48 #[v] w fun e w' => e = .returned (.tuple #[.slice none 0 0, .iface 55 (.int .i64 (n : Int))]) ∧ Below w.heap.size w w' := by
  refine (set_any v l w hv hl hG).mono ?_
  rw [hs]
  rintro e w' ⟨r, rfl, h1, h2⟩
  have h1' : r = .tuple #[.slice none 0 0, .iface 55 (.int .i64 (n : Int))] := h1
  exact ⟨by rw [h1'], h2⟩
set_option maxRecDepth 100000 in
set_option maxHeartbeats 4000000 in
theorem app_bad (B : Nat) (b : BoxP) (l : List (List UInt8)) (fv : Value) (day : Int) (text : List UInt8) (n : Nat) (w : World) (hb : BoxAt w B b) (hf : SRow w fv l) (hl : Short l) (ht : text.length ≤ 1000000) (hG : FlagG w) (hbad : (appB b l day text).1 = .inl n) (hll : b.ls.length ≤ 1000000) :
    Calls Tryz.prog 25 #[.pointer (some ⟨B, 0, none⟩), fv, .int .i64 day, .string ⟨text.toArray⟩] w fun e w' => e = .returned (.tuple #[.int .i64 0, .iface 55 (.int .i64 (n : Int))]) ∧ Below w.heap.size w w' := by
  obtain ⟨lv, hB, hv⟩ := hb
  obtain ⟨ao, cap, rfl, _⟩ := hv
  have hBl : B < w.heap.size := (Array.getElem?_eq_some_iff.1 hB).1
  have d1 : w.cell? ⟨B, 1, none⟩ = some (.int .i64 b.next) := by rw [Lib.cell_of_heap hB]; rfl
  have d2 : w.cell? ⟨B, 2, none⟩ = some (.slice ao b.ls.length cap) := by rw [Lib.cell_of_heap hB]; rfl
  have hts := text_size text
  unfold appB maxN at hbad
  cases hs : setF l with
  | inl m =>
    have cS := set_isnt hs fv w hf hl hG
    by_cases h2 : 2000 < text.length
    · rw [if_pos h2] at hbad
      cases hbad
      have h2z : (2000 : Int) < (text.length : Int) := by omega
      clear hs hB
      go_enter Tryz.func25, Tryz.ntmps25
      go_wp2_with (go_at_call 48; go_loud ((with_reducible refine cS.mono ?_); rintro e w1 ⟨rfl, h⟩))
      go_ret2
      exact ⟨rfl, h⟩
    · rw [if_neg h2, hs] at hbad
      cases hbad
      have h2z : ¬ ((2000 : Int) < (text.length : Int)) := by omega
      clear hs hB
      go_enter Tryz.func25, Tryz.ntmps25
      go_wp2_with (go_at_call 48; go_loud ((with_reducible refine cS.mono ?_); rintro e w1 ⟨rfl, h⟩))
      go_ret2
      exact ⟨rfl, h⟩
  | inr f =>
    have cS := set_is hs fv w hf hl hG
    by_cases h2 : 2000 < text.length
    · rw [if_pos h2] at hbad
      cases hbad
      have h2z : (2000 : Int) < (text.length : Int) := by omega
      clear hs hB
      go_enter Tryz.func25, Tryz.ntmps25
      go_wp2_with (go_at_call 48; go_loud ((with_reducible refine cS.mono ?_); rintro e w1 ⟨sv, rfl, _, h⟩))
      go_ret2
      exact ⟨rfl, h⟩
    · rw [if_neg h2, hs] at hbad
      have h2z : ¬ ((2000 : Int) < (text.length : Int)) := by omega
      simp only at hbad
      by_cases hd : day < 0 ∨ 2147483647 < day
      · rw [if_pos hd] at hbad
        cases hbad
        clear hs hB
        rcases hd with hd | hd
        · go_enter Tryz.func25, Tryz.ntmps25
          go_wp2_with (go_at_call 48; go_loud ((with_reducible refine cS.mono ?_); rintro e w1 ⟨sv, rfl, _, h⟩))
          go_ret2
          exact ⟨rfl, h⟩
        · have hd0 : ¬ day < 0 := by omega
          go_enter Tryz.func25, Tryz.ntmps25
          go_wp2_with (go_at_call 48; go_loud ((with_reducible refine cS.mono ?_); rintro e w1 ⟨sv, rfl, _, h⟩))
          go_ret2
          exact ⟨rfl, h⟩
      · rw [if_neg hd] at hbad
        have hd0 : ¬ day < 0 := by omega
        have hd1 : ¬ 2147483647 < day := by omega
        by_cases hq : 60 ≤ b.ls.length ∨ 2147483647 ≤ b.next
        · rw [if_pos hq] at hbad
          cases hbad
          clear hs hB
          rcases Nat.lt_or_ge b.ls.length 60 with h6 | h6
          · have hn : 2147483647 ≤ b.next := by omega
            have h6z : ¬ ((60 : Int) ≤ (b.ls.length : Int)) := by omega
            go_enter Tryz.func25, Tryz.ntmps25
            go_wp2_with (go_at_call 48; go_loud ((with_reducible refine cS.mono ?_); rintro e w1 ⟨sv, rfl, _, h⟩; have d1 := (h.cell (p := ⟨B, 1, none⟩) hBl).trans d1; have d2 := (h.cell (p := ⟨B, 2, none⟩) hBl).trans d2))
            go_ret2
            exact ⟨rfl, h⟩
          · have h6z : (60 : Int) ≤ (b.ls.length : Int) := by omega
            go_enter Tryz.func25, Tryz.ntmps25
            go_wp2_with (go_at_call 48; go_loud ((with_reducible refine cS.mono ?_); rintro e w1 ⟨sv, rfl, _, h⟩; have d1 := (h.cell (p := ⟨B, 1, none⟩) hBl).trans d1; have d2 := (h.cell (p := ⟨B, 2, none⟩) hBl).trans d2))
            go_ret2
            exact ⟨rfl, h⟩
        · rw [if_neg hq] at hbad
          cases hbad
end Go.Proofs.YtdlfbhbgemoelaaGreatDoor
namespace Go.Proofs.YtdlfbhbgemoelaaGreatDoor
open Go.RowKit Go.Shelf Go.Sort

set_option maxRecDepth 100000 in
set_option maxHeartbeats 2000000 in
theorem clip_any (ao : Option Addr) (n cap : Nat) (w : World) (h : n ≤ cap) (hc : cap ≤ 9223372036854775807) (hn : ao = none → cap = 0) :
    Calls Tryz.prog 49 #[.slice ao n cap] w fun e w' => e = .returned (.slice ao n n) ∧ w = w' := by
  go_enter Tryz.func49, Tryz.ntmps49
  go_wp2_with fail
  go_ret
  exact ⟨rfl, rfl⟩
end Go.Proofs.YtdlfbhbgemoelaaGreatDoor
