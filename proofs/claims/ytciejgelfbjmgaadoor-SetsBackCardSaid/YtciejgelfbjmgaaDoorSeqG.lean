/- The walk over the fact that numbers are read. Conditions: strconv's table of powers and its two errors, and bytealg.MaxLen, lie as the program's text lays them. -/
import Derived.Test.YtciejgelfbjmgaaDoorSeqB
import Derived.Test.YtciejgelfbjmgaaDoorSeqE
namespace Go.Proofs.YtciejgelfbjmgaaDoor
open Go.RowKit Go.Shelf Go.Sort
set_option linter.unusedSimpArgs false

/-- what the walks of sets want of memory -/
structure NumG (w : World) : Prop where
  str : StrG w
  max : MaxG w
theorem NumG.below {w w' : World} (h : NumG w) (hb : Below w.heap.size w w') : NumG w' := ⟨h.str.below hb, h.max.below hb⟩
theorem numbered_parse : parseS [50, 58, 51, 44, 55, 58, 42] = .ok [(2, 3), (7, 0)] := by kernel_rfl
set_option maxRecDepth 100000 in
set_option maxHeartbeats 4000000 in
theorem numbered_any (w : World) (hG : NumG w) : Calls Tryd.prog 4 #[] w fun e w' => e = .returned (.bool true) ∧ Below w.heap.size w w' := by
  have cP : Calls Tryd.prog 6 #[.string ⟨#[50, 58, 51, 44, 55, 58, 42]⟩] w fun e w' => ∃ a c, e = .returned (.tuple #[.slice a 2 c, .nilIface]) ∧ RgRow w' (.slice a 2 c) [(2, 3), (7, 0)] ∧ Below w.heap.size w w' := (parse_any [50, 58, 51, 44, 55, 58, 42] w (by decide) hG.str hG.max).mono fun e w' h => by
    unfold ParR at h
    rw [numbered_parse] at h
    obtain ⟨v, h1, h2, h3, h4⟩ := h
    obtain ⟨a, c, rfl⟩ := owned_val h2
    exact ⟨a, c, h1, rg_of_owns h2, h4⟩
  have t1 : hasS [(2, 3), (7, 0)] 3 9 = true := by decide
  have t2 : hasS [(2, 3), (7, 0)] 8 9 = true := by decide
  have t3 : hasS [(2, 3), (7, 0)] 4 9 = false := by decide
  have t4 : (ofS [1, 2, 5]).length = 2 := by decide
  have c1 := fun a c W (h : RgRow W (.slice a 2 c) [(2, 3), (7, 0)]) => hasS_any (.slice a 2 c) [(2, 3), (7, 0)] 3 9 W h
  have c2 := fun a c W (h : RgRow W (.slice a 2 c) [(2, 3), (7, 0)]) => hasS_any (.slice a 2 c) [(2, 3), (7, 0)] 8 9 W h
  have c3 := fun a c W (h : RgRow W (.slice a 2 c) [(2, 3), (7, 0)]) => hasS_any (.slice a 2 c) [(2, 3), (7, 0)] 4 9 W h
  rw [t1] at c1
  rw [t2] at c2
  rw [t3] at c3
  have cO : ∀ W : World, Calls Tryd.prog 13 #[.slice (some ⟨W.heap.size, 0, none⟩) 3 3] (W.alloc (.cells #[.int .i64 1, .int .i64 2, .int .i64 5] 3)) fun e w' => ∃ a c, e = .returned (.slice a 2 c) ∧ Below (W.alloc (.cells #[.int .i64 1, .int .i64 2, .int .i64 5] 3)).heap.size (W.alloc (.cells #[.int .i64 1, .int .i64 2, .int .i64 5] 3)) w' := fun W =>
    (of_any (.slice (some ⟨W.heap.size, 0, none⟩) 3 3) [1, 2, 5] _ ⟨_, 3, rfl, by decide, by decide, fun j n hj => ⟨W.heap.size, 0, rfl, by rw [alloc_size]; exact Nat.lt_succ_self _, by
      rw [Lib.cell_of_heap (World.heap_alloc_new W _), Nat.zero_add]
      match j, hj with
      | 0, hj => cases hj; rfl
      | 1, hj => cases hj; rfl
      | 2, hj => cases hj; rfl
      | j + 3, hj => simp at hj⟩⟩ (by decide) (by decide)).mono fun e w' ⟨r, h1, h2, h3⟩ => by
        rw [t4] at h2
        obtain ⟨a, c, rfl⟩ := owned_val h2
        exact ⟨a, c, h1, h3⟩
  clear hG t1 t2 t3 t4
  go_enter Tryd.func4, Tryd.ntmps4
  go_wp2_with (first
    | (go_at_call 6; go_loud (((with_reducible refine cP.mono ?_); rintro e w1 ⟨a, c, rfl, hr1, y1⟩)))
    | (go_at_call 9; (with_reducible refine (c1 a c w1 hr1).mono ?_); rintro e w2 ⟨rfl, h2⟩; have y2 := y1.trans (h2.mono y1.size); have hr2 := hr1.below h2; clear c1)
    | (go_at_call 9; (with_reducible refine (c2 a c w2 hr2).mono ?_); rintro e w3 ⟨rfl, h3⟩; have y3 := y2.trans (h3.mono y2.size); have hr3 := hr2.below h3; clear c2)
    | (go_at_call 9; (with_reducible refine (c3 a c w3 hr3).mono ?_); rintro e w4 ⟨rfl, h4⟩; have y4 := y3.trans (h4.mono y3.size); have y5 := y4.alloc y4.size (.cells #[.int .i64 1, .int .i64 2, .int .i64 5] 3); clear c3)
    | (go_at_call 13; go_loud (((with_reducible refine (cO w4).mono ?_); rintro e w5 ⟨a5, c5, rfl, h5⟩; have y6 := y5.trans (h5.mono y5.size)))))
  go_ret
  exact ⟨rfl, y6⟩
end Go.Proofs.YtciejgelfbjmgaaDoor
