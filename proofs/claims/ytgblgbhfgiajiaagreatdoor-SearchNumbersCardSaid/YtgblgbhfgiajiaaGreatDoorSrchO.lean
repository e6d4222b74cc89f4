/- The walks over search's has, and what Holds asks of a field. Conditions: bytealg.MaxLen lies. -/
import Derived.Test.YtgblgbhfgiajiaaGreatDoorSrchF
import Derived.Test.YtgblgbhfgiajiaaGreatDoorHeadE
import Derived.Test.YtgblgbhfgiajiaaGreatDoorContS
import Derived.Deep.RegionHeld3
import Derived.Deep.DeepCutAuto
import Derived.Test.YtgblgbhfgiajiaaGreatDoorHeldS
import Derived.Laws.EntriesVeiled
import Derived.StillTailTactics
namespace Go.Proofs.YtgblgbhfgiajiaaGreatDoor
open Go.RowKit Go.Shelf Go.Sort
set_option linter.unusedSimpArgs false

theorem small_len (S : List UInt8) : (smallL S).length = S.length := by unfold smallL; rw [List.length_map]
set_option maxRecDepth 100000 in
set_option maxHeartbeats 4000000 in
theorem hasK_any (s t : List UInt8) (w : World) (hs : s.length ≤ 100000000) (ht : t.length ≤ 100000000) (hM : MaxL w) : Calls Tryz.prog 23 #[.string ⟨s.toArray⟩, .string ⟨t.toArray⟩] w fun e w' => e = .returned (.bool (hasK s t)) ∧ Below w.heap.size w w' := by
  have c1 := small_any ⟨s.toArray⟩ w (by rw [text_size]; omega)
  have c2 := fun W => small_any ⟨t.toArray⟩ W (by rw [text_size]; omega)
  simp only [List.toList_toArray] at c1 c2
  have hsl := small_len s
  have cC : ∀ W, MaxL W → Calls Tryz.prog 44 #[.string ⟨(smallL s).toArray⟩, .string ⟨(smallL t).toArray⟩] W fun e w' => e = .returned (.bool (Lib.contains (smallL s) (smallL t))) ∧ w' = W := fun W hW => by
    obtain ⟨m, hm⟩ := hW
    have := Tryz.strings_Contains ⟨(smallL s).toArray⟩ ⟨(smallL t).toArray⟩ m W (by rw [text_size]; omega) hm
    simpa using this
  have HM := Lib.hid hM
  have HX : Hid (hasK s t = Lib.contains (smallL s) (smallL t)) := Lib.hid rfl
  generalize Lib.contains (smallL s) (smallL t) = X at cC HX
  generalize smallL s = A at c1 cC hsl
  generalize smallL t = B at c2 cC
  clear hM hsl
  go_enter Tryz.func23, Tryz.ntmps23
  go_wp2_with (first
    | (go_at_call 22; go_loud (((with_reducible refine c1.mono ?_); rintro e w1 ⟨rfl, y1⟩; have m1 := MaxL.below HM.out y1)))
    | (go_at_call 22; go_loud (((with_reducible refine (c2 _).mono ?_); rintro e w2 ⟨rfl, y2⟩; have cC1 := cC w2 (MaxL.below m1 y2))))
    | (go_at_call 44; go_loud (((with_reducible refine cC1.mono ?_); rintro e w3 ⟨rfl, hw3⟩; rw [hw3]; clear hw3))))
  go_ret
  exact ⟨by rw [HX.out]; rfl, y1.trans (y2.mono y1.size)⟩

set_option maxRecDepth 100000 in
set_option maxHeartbeats 8000000 in
theorem hfield_any (f : Fld) (K : Nat) (nm tx : List UInt8) (x0 x3 x4 x5 : Value) (T : TypeId) (w : World) (hK : w.heap[K]? = some (.cells #[x0, .string ⟨nm.toArray⟩, .string ⟨tx.toArray⟩, x3, x4, x5] T (0, 0))) (h1 : f.1.length ≤ 100000000) (h2 : f.2.length ≤ 100000000) (ht : tx.length ≤ 2000000) (hM : MaxL w) :
    Calls Tryz.prog 21 #[.agg #[.string ⟨f.1.toArray⟩, .string ⟨f.2.toArray⟩], .pointer (some ⟨K, 0, none⟩)] w fun e w' => e = .returned (.bool (smallL f.1 == nm && hasK f.2 tx)) ∧ Below w.heap.size w w' := by
  obtain ⟨a, b⟩ := f
  have cS := fun W => small_any ⟨a.toArray⟩ W (by rw [text_size]; dsimp only at h1; omega)
  simp only [List.toList_toArray] at cS
  have cH := fun W hW => hasK_any b tx W h2 (by omega) hW
  have y0 := (Below.refl w.heap.size w).alloc (Nat.le_refl _) (.cells #[.string ⟨a.toArray⟩, .string ⟨b.toArray⟩] 67)
  have z0 := World.heap_alloc_new w (.cells #[.string ⟨a.toArray⟩, .string ⟨b.toArray⟩] 67)
  have k0 := below_same y0 hK
  have m0 := MaxL.below hM y0
  obtain ⟨w1, hw1⟩ : ∃ w1, w.alloc (.cells #[.string ⟨a.toArray⟩, .string ⟨b.toArray⟩] 67) = w1 := ⟨_, rfl⟩
  rw [hw1] at y0 z0 k0 m0
  have HW := Lib.hid hw1
  have hb := Below.refl w1.heap.size w1
  have hb := hb.drew
  have hXl := (Array.getElem?_eq_some_iff.1 z0).1
  have hKl := (Array.getElem?_eq_some_iff.1 k0).1
  have z1 := below_same hb z0
  have k1 := below_same hb k0
  have mm := MaxL.below m0 hb
  obtain ⟨p0, p1⟩ := two_cells z1
  obtain ⟨-, q1, q2, -, -, -⟩ := ksix_cells k1
  have Z := Lib.hid z0
  have KK := Lib.hid k0
  have M := Lib.hid m0
  have Y := Lib.hid y0
  clear hw1 z0 k0 z1 k1 y0 m0 hM hK h1 h2 ht
  dsimp only
  obtain ⟨A, hA⟩ : ∃ A, smallL a = A := ⟨_, rfl⟩
  rw [hA] at cS ⊢
  clear hA
  have keep : ∀ W, Below w1.heap.size w1 W → W.cell? ⟨w.heap.size, 0, none⟩ = some (.string ⟨a.toArray⟩) ∧ W.cell? ⟨w.heap.size, 1, none⟩ = some (.string ⟨b.toArray⟩) ∧ W.cell? ⟨K, 1, none⟩ = some (.string ⟨nm.toArray⟩) ∧ W.cell? ⟨K, 2, none⟩ = some (.string ⟨tx.toArray⟩) ∧ MaxL W := fun W h => by
    obtain ⟨u0, u1⟩ := two_cells (below_same h Z.out)
    obtain ⟨-, v1, v2, -, -, -⟩ := ksix_cells (below_same h KK.out)
    exact ⟨u0, u1, v1, v2, MaxL.below M.out h⟩
  have KEEP := Lib.hid keep
  clear keep
  by_cases he : A = nm
  · subst he
    have hbq : (A == A) = true := by simp
    rw [hbq, Bool.true_and]
    go_enter Tryz.func21, Tryz.ntmps21
    go_upto_region 1 with fail
    rw [show w.alloc (.cells #[.string ⟨a.toArray⟩, .string ⟨b.toArray⟩] 67) = w1 from HW.out]
    go_region_held3 (fun W => W.cell? ⟨w.heap.size, 0, none⟩ = some (.string ⟨a.toArray⟩) ∧ W.cell? ⟨w.heap.size, 1, none⟩ = some (.string ⟨b.toArray⟩) ∧ W.cell? ⟨K, 1, none⟩ = some (.string ⟨A.toArray⟩) ∧ W.cell? ⟨K, 2, none⟩ = some (.string ⟨tx.toArray⟩) ∧ MaxL W)
      (first | exact ⟨p0, p1, q1, q2, mm⟩ | exact KEEP.out _ hb)
      (first
        | (go_at_call 22; with_reducible refine (cS _).mono ?_; rintro e w2 ⟨rfl, h⟩; have hb := hb.trans (h.mono hb.size))
        | (go_at_call 23; with_reducible refine (cH _ (MaxL.below M.out hb)).mono ?_; rintro e w3 ⟨rfl, h⟩; have hb := hb.trans (h.mono hb.size)))
    go_wp2_with fail
    go_ret
    exact ⟨rfl, Y.out.trans (hb.mono Y.out.size)⟩
  · have hbq : (A == nm) = false := by rw [beq_eq_false_iff_ne]; exact he
    rw [hbq, Bool.false_and]
    go_enter Tryz.func21, Tryz.ntmps21
    go_upto_region 1 with fail
    rw [show w.alloc (.cells #[.string ⟨a.toArray⟩, .string ⟨b.toArray⟩] 67) = w1 from HW.out]
    have hS1 : (fun _ : World => True) w1.drew := trivial
    have hS0 : (fun W : World => W.cell? ⟨w.heap.size, 0, none⟩ = some (.string ⟨a.toArray⟩) ∧ W.cell? ⟨K, 1, none⟩ = some (.string ⟨nm.toArray⟩)) w1.drew := ⟨p0, q1⟩
    refine until_start (S := fun _ => True) (S0 := fun W => W.cell? ⟨w.heap.size, 0, none⟩ = some (.string ⟨a.toArray⟩) ∧ W.cell? ⟨K, 1, none⟩ = some (.string ⟨nm.toArray⟩)) (t := 5) (by kernel_rfl) ?_
    generalize w1.drew = wd at *
    refine until_take0 (i := 0) (v := ?v0) rfl (by kernel_rfl) (by kernel_rfl) (by kernel_rfl) (by rfl) (fun _ _ _ h => h) (Or.inl ⟨by rfl, ?y0⟩) hS0 (fun _ => hS1) ?r0
    case y0 => (intro W hSw; (try dsimp only at hSw); go_simp; try with_reducible rfl)
    try simp only [Act.put, List.setIfInBounds_toArray, List.set_cons_zero, List.set_cons_succ]
    refine until_take0 (i := 1) (v := ?v1) rfl (by kernel_rfl) (by kernel_rfl) (by kernel_rfl) (by rfl) (fun _ _ _ h => h) (Or.inl ⟨by rfl, ?y1⟩) hS0 (fun _ => hS1) ?r1
    case y1 => (intro W hSw; (try dsimp only at hSw); go_simp; try with_reducible rfl)
    try simp only [Act.put, List.setIfInBounds_toArray, List.set_cons_zero, List.set_cons_succ]
    refine until_take0 (i := 3) (v := ?v3) rfl (by kernel_rfl) (by kernel_rfl) (by kernel_rfl) (by rfl) (fun _ _ _ h => h) (Or.inl ⟨by rfl, ?y3⟩) hS0 (fun _ => hS1) ?r3
    case y3 => (intro W hSw; (try dsimp only at hSw); go_simp; try with_reducible rfl)
    try simp only [Act.put, List.setIfInBounds_toArray, List.set_cons_zero, List.set_cons_succ]
    refine until_take0 (i := 4) (v := ?v4) rfl (by kernel_rfl) (by kernel_rfl) (by kernel_rfl) (by rfl) (fun _ _ _ h => h) (Or.inl ⟨by rfl, ?y4⟩) hS0 (fun _ => hS1) ?r4
    case y4 => (intro W hSw; (try dsimp only at hSw); go_simp; try with_reducible rfl)
    try simp only [Act.put, List.setIfInBounds_toArray, List.set_cons_zero, List.set_cons_succ]
    refine until_step (i := 2) (by kernel_rfl) rfl (fun K' hK => ?_)
    go_simp
    (with_reducible refine (cS _).mono ?_)
    rintro e w2 ⟨rfl, h⟩
    have hb := hb.trans (h.mono hb.size)
    have kk := KEEP.out _ hb
    clear hS0
    have hS0 : (fun W : World => W.cell? ⟨w.heap.size, 0, none⟩ = some (.string ⟨a.toArray⟩) ∧ W.cell? ⟨K, 1, none⟩ = some (.string ⟨nm.toArray⟩)) w2 := ⟨kk.1, kk.2.2.1⟩
    have hS1 : (fun _ : World => True) w2 := trivial
    go_wp2_with fail
    refine hK.out _ _ hS0 (fun _ _ => trivial) ?_
    clear hK K'
    try simp only [Act.put, List.setIfInBounds_toArray, List.set_cons_zero, List.set_cons_succ]
    refine until_step (i := 5) (by kernel_rfl) rfl (fun K' hK => ?_)
    go_simp
    refine hK.out _ _ hS0 (fun _ _ => trivial) ?_
    clear hK K'
    try simp only [Act.put, List.setIfInBounds_toArray, List.set_cons_zero, List.set_cons_succ]
    refine until_step (i := 6) (by kernel_rfl) rfl (fun K' hK => ?_)
    go_simp
    refine hK.out _ _ hS0 (fun _ _ => trivial) ?_
    clear hK K'
    try simp only [Act.put, List.setIfInBounds_toArray, List.set_cons_zero, List.set_cons_succ]
    refine until_take0 (i := 7) (v := undef) rfl (by kernel_rfl) (by kernel_rfl) (by kernel_rfl) (by rfl) (fun _ _ _ h => h) (Or.inr ⟨by rfl, rfl⟩) hS0 (fun _ => hS1) ?r7
    try simp only [Act.put, List.setIfInBounds_toArray, List.set_cons_zero, List.set_cons_succ]
    refine until_take0 (i := 8) (v := undef) rfl (by kernel_rfl) (by kernel_rfl) (by kernel_rfl) (by rfl) (fun _ _ _ h => h) (Or.inr ⟨by rfl, rfl⟩) hS0 (fun _ => hS1) ?r8
    try simp only [Act.put, List.setIfInBounds_toArray, List.set_cons_zero, List.set_cons_succ]
    refine until_take0 (i := 9) (v := undef) rfl (by kernel_rfl) (by kernel_rfl) (by kernel_rfl) (by rfl) (fun _ _ _ h => h) (Or.inr ⟨by rfl, rfl⟩) hS0 (fun _ => hS1) ?r9
    try simp only [Act.put, List.setIfInBounds_toArray, List.set_cons_zero, List.set_cons_succ]
    refine until_take0 (i := 10) (v := undef) rfl (by kernel_rfl) (by kernel_rfl) (by kernel_rfl) (by rfl) (fun _ _ _ h => h) (Or.inr ⟨by rfl, rfl⟩) hS0 (fun _ => hS1) ?r10
    try simp only [Act.put, List.setIfInBounds_toArray, List.set_cons_zero, List.set_cons_succ]
    refine until_step (i := 11) (by kernel_rfl) rfl (fun K' hK => ?_)
    go_simp
    refine hK.out _ _ hS0 (fun _ _ => trivial) ?_
    clear hK K'
    try simp only [Act.put, List.setIfInBounds_toArray, List.set_cons_zero, List.set_cons_succ]
    refine until_step (i := 12) (by kernel_rfl) rfl (fun K' hK => ?_)
    go_simp
    refine hK.out _ _ hS0 (fun _ _ => trivial) ?_
    clear hK K'
    try simp only [Act.put, List.setIfInBounds_toArray, List.set_cons_zero, List.set_cons_succ]
    refine until_step (i := 13) (by kernel_rfl) rfl (fun K' hK => ?_)
    go_simp
    refine hK.out _ _ hS0 (fun _ _ => trivial) ?_
    clear hK K'
    try simp only [Act.put, List.setIfInBounds_toArray, List.set_cons_zero, List.set_cons_succ]
    refine until_done (by kernel_rfl) ?_ _
    go_wp2_with fail
    go_ret
    exact ⟨rfl, Y.out.trans (hb.mono Y.out.size)⟩
end Go.Proofs.YtgblgbhfgiajiaaGreatDoor
