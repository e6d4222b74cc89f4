/- The walk over a box's Append where it refuses: what is wrong is told, and the box is as it was. Condition: flags.system lies as the program's text lays it. -/
import Derived.Test.YteabnpahhkicaaaDoorBoxC
namespace Go.Proofs.YteabnpahhkicaaaDoor
open Go.RowKit Go.Shelf Go.Sort

theorem set_isnt {l : List (List UInt8)} {n : Nat} (hs : setF l = .inl n) (v : Value) (w : World) (hv : SRow w v l) (hl : Short l) (hG : FlagG w) :
    Calls Tryd.prog 27 #[v] w fun e w' => e = .returned (.tuple #[.slice none 0 0, .iface 71 (.int .i64 (n : Int))]) ∧ Below w.heap.size w w' := by
  refine (set_any v l w hv hl hG).mono ?_
  rw [hs]
  rintro e w' ⟨r, rfl, h1, h2⟩
  have h1' : r = .tuple #[.slice none 0 0, .iface 71 (.int .i64 (n : Int))] := h1
  exact ⟨by rw [h1'], h2⟩
set_option maxRecDepth 100000 in
set_option maxHeartbeats 4000000 in
theorem app_bad (B : Nat) (b : BoxP) (l : List (List UInt8)) (fv : Value) (day : Int) (text : List UInt8) (n : Nat) (w : World) (hb : BoxAt w B b) (hf : SRow w fv l) (hl : Short l) (ht : text.length ≤ 1000000) (hG : FlagG w) (hbad : (appB b l day text).1 = .inl n) (hll : b.ls.length ≤ 1000000) :
    Calls Tryd.prog 13 #[.pointer (some ⟨B, 0, none⟩), fv, .int .i64 day, .string ⟨text.toArray⟩] w fun e w' => e = .returned (.tuple #[.int .i64 0, .iface 71 (.int .i64 (n : Int))]) ∧ Below w.heap.size w w' := by
  obtain ⟨lv, hB, hv⟩ := hb
  obtain ⟨ao, cap, rfl, _⟩ := hv
  have hBl : B < w.heap.size := (Array.getElem?_eq_some_iff.1 hB).1
  have d1 : w.cell? ⟨B, 1, none⟩ = some (.int .i64 b.next) := by rw [Lib.cell_of_heap hB]; rfl
  have d2 : w.cell? ⟨B, 2, none⟩ = some (.slice ao b.ls.length cap) := by rw [Lib.cell_of_heap hB]; rfl
  have hts := text_size text
  unfold appB maxN at hbad
  cases hs : setF l with
  | inl m =>
    have cS := set_isnt hs fv w hf hl hG
    by_cases h2 : 2000 < text.length
    · rw [if_pos h2] at hbad
      cases hbad
      have h2z : (2000 : Int) < (text.length : Int) := by omega
      clear hs hB
      go_enter Tryd.func13, Tryd.ntmps13
      go_wp2_with (go_at_call 27; go_loud ((with_reducible refine cS.mono ?_); rintro e w1 ⟨rfl, h⟩))
      go_ret2
      exact ⟨rfl, h⟩
    · rw [if_neg h2, hs] at hbad
      cases hbad
      have h2z : ¬ ((2000 : Int) < (text.length : Int)) := by omega
      clear hs hB
      go_enter Tryd.func13, Tryd.ntmps13
      go_wp2_with (go_at_call 27; go_loud ((with_reducible refine cS.mono ?_); rintro e w1 ⟨rfl, h⟩))
      go_ret2
      exact ⟨rfl, h⟩
  | inr f =>
    have cS := set_is hs fv w hf hl hG
    by_cases h2 : 2000 < text.length
    · rw [if_pos h2] at hbad
      cases hbad
      have h2z : (2000 : Int) < (text.length : Int) := by omega
      clear hs hB
      go_enter Tryd.func13, Tryd.ntmps13
      go_wp2_with (go_at_call 27; go_loud ((with_reducible refine cS.mono ?_); rintro e w1 ⟨sv, rfl, _, h⟩))
      go_ret2
      exact ⟨rfl, h⟩
    · rw [if_neg h2, hs] at hbad
      have h2z : ¬ ((2000 : Int) < (text.length : Int)) := by omega
      simp only at hbad
      by_cases hd : day < 0 ∨ 2147483647 < day
      · rw [if_pos hd] at hbad
        cases hbad
        clear hs hB
        rcases hd with hd | hd
        · go_enter Tryd.func13, Tryd.ntmps13
          go_wp2_with (go_at_call 27; go_loud ((with_reducible refine cS.mono ?_); rintro e w1 ⟨sv, rfl, _, h⟩))
          go_ret2
          exact ⟨rfl, h⟩
        · have hd0 : ¬ day < 0 := by omega
          go_enter Tryd.func13, Tryd.ntmps13
          go_wp2_with (go_at_call 27; go_loud ((with_reducible refine cS.mono ?_); rintro e w1 ⟨sv, rfl, _, h⟩))
          go_ret2
          exact ⟨rfl, h⟩
      · rw [if_neg hd] at hbad
        have hd0 : ¬ day < 0 := by omega
        have hd1 : ¬ 2147483647 < day := by omega
        by_cases hq : 60 ≤ b.ls.length ∨ 2147483647 ≤ b.next
        · rw [if_pos hq] at hbad
          cases hbad
          clear hs hB
          rcases Nat.lt_or_ge b.ls.length 60 with h6 | h6
          · have hn : 2147483647 ≤ b.next := by omega
            have h6z : ¬ ((60 : Int) ≤ (b.ls.length : Int)) := by omega
            go_enter Tryd.func13, Tryd.ntmps13
            go_wp2_with (go_at_call 27; go_loud ((with_reducible refine cS.mono ?_); rintro e w1 ⟨sv, rfl, _, h⟩; have d1 := (h.cell (p := ⟨B, 1, none⟩) hBl).trans d1; have d2 := (h.cell (p := ⟨B, 2, none⟩) hBl).trans d2))
            go_ret2
            exact ⟨rfl, h⟩
          · have h6z : (60 : Int) ≤ (b.ls.length : Int) := by omega
            go_enter Tryd.func13, Tryd.ntmps13
            go_wp2_with (go_at_call 27; go_loud ((with_reducible refine cS.mono ?_); rintro e w1 ⟨sv, rfl, _, h⟩; have d1 := (h.cell (p := ⟨B, 1, none⟩) hBl).trans d1; have d2 := (h.cell (p := ⟨B, 2, none⟩) hBl).trans d2))
            go_ret2
            exact ⟨rfl, h⟩
        · rw [if_neg hq] at hbad
          cases hbad
end Go.Proofs.YteabnpahhkicaaaDoor
