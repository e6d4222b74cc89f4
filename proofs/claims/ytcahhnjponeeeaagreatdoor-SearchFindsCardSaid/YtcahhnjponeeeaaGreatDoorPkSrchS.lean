/- The walks over search's has, and what Holds asks of a field. Conditions: bytealg.MaxLen lies. slices.ContainsFunc at a row of fields, and of keys, with the closures of search.Holds: each returns what its plain function says, where the closure does. No condition beyond those each names. The walk over search.Holds: whether a letter is what a key asks for. Conditions: bytealg.MaxLen lies. The walk over search.Holds: whether a letter is what a key asks for. Conditions: bytealg.MaxLen lies. The walk over search.Holds: whether a letter is what a key asks for. Conditions: bytealg.MaxLen lies. The walk over search.Holds: whether a letter is what a key asks for. Conditions: bytealg.MaxLen lies. The walk over search.Holds: whether a letter is what a key asks for. Conditions: bytealg.MaxLen lies. The walk over search.Holds: whether a letter is what a key asks for. Conditions: bytealg.MaxLen lies. Rows of words that a statement builds; Parse's answers; the fact looked. Conditions: flags.system, strconv's table of powers and its two errors, bytealg.MaxLen and the handle of error lie as the program's text lays them. -/
import Derived.Deep.RegionHeld3
import Derived.Deep.DeepCutAuto
import Derived.Laws.EntriesVeiled
import Derived.StillTailTactics
import Derived.Test.YtcahhnjponeeeaaGreatDoorPkPSearch3
import Derived.Test.YtcahhnjponeeeaaGreatDoorPkContS
import Derived.Test.YtcahhnjponeeeaaGreatDoorPkHeldS
import Derived.Test.YtcahhnjponeeeaaGreatDoorPkSrchN
namespace Go.Proofs.YtcahhnjponeeeaaGreatDoor
open Go.RowKit Go.Shelf Go.Sort
set_option linter.unusedSimpArgs false
theorem small_len (S : List UInt8) : (smallL S).length = S.length := by unfold smallL; rw [List.length_map]
set_option maxRecDepth 100000 in
set_option maxHeartbeats 4000000 in
theorem hasK_any (s t : List UInt8) (w : World) (hs : s.length ≤ 100000000) (ht : t.length ≤ 100000000) (hM : MaxL w) : Calls Tryz.prog 25 #[.string ⟨s.toArray⟩, .string ⟨t.toArray⟩] w fun e w' => e = .returned (.bool (hasK s t)) ∧ Below w.heap.size w w' := by
  have c1 := small_any ⟨s.toArray⟩ w (by rw [text_size]; omega)
  have c2 := fun W => small_any ⟨t.toArray⟩ W (by rw [text_size]; omega)
  simp only [List.toList_toArray] at c1 c2
  have hsl := small_len s
  have cC : ∀ W, MaxL W → Calls Tryz.prog 32 #[.string ⟨(smallL s).toArray⟩, .string ⟨(smallL t).toArray⟩] W fun e w' => e = .returned (.bool (Lib.contains (smallL s) (smallL t))) ∧ w' = W := fun W hW => by
    obtain ⟨m, hm⟩ := hW
    have := Tryz.strings_Contains ⟨(smallL s).toArray⟩ ⟨(smallL t).toArray⟩ m W (by rw [text_size]; omega) hm
    simpa using this
  have HM := Lib.hid hM
  have HX : Hid (hasK s t = Lib.contains (smallL s) (smallL t)) := Lib.hid rfl
  generalize Lib.contains (smallL s) (smallL t) = X at cC HX
  generalize smallL s = A at c1 cC hsl
  generalize smallL t = B at c2 cC
  clear hM hsl
  go_enter Tryz.func25, Tryz.ntmps25
  go_wp2_with (first
    | (go_at_call 24; go_loud (((with_reducible refine c1.mono ?_); rintro e w1 ⟨rfl, y1⟩; have m1 := MaxL.below HM.out y1)))
    | (go_at_call 24; go_loud (((with_reducible refine (c2 _).mono ?_); rintro e w2 ⟨rfl, y2⟩; have cC1 := cC w2 (MaxL.below m1 y2))))
    | (go_at_call 32; go_loud (((with_reducible refine cC1.mono ?_); rintro e w3 ⟨rfl, hw3⟩; rw [hw3]; clear hw3))))
  go_ret
  exact ⟨by rw [HX.out]; rfl, y1.trans (y2.mono y1.size)⟩
set_option maxRecDepth 100000 in
set_option maxHeartbeats 8000000 in
theorem hfield_any (f : Fld) (K : Nat) (nm tx : List UInt8) (x0 x3 x4 x5 : Value) (T : TypeId) (w : World) (hK : w.heap[K]? = some (.cells #[x0, .string ⟨nm.toArray⟩, .string ⟨tx.toArray⟩, x3, x4, x5] T (0, 0))) (h1 : f.1.length ≤ 100000000) (h2 : f.2.length ≤ 100000000) (ht : tx.length ≤ 2000000) (hM : MaxL w) :
    Calls Tryz.prog 23 #[.agg #[.string ⟨f.1.toArray⟩, .string ⟨f.2.toArray⟩], .pointer (some ⟨K, 0, none⟩)] w fun e w' => e = .returned (.bool (smallL f.1 == nm && hasK f.2 tx)) ∧ Below w.heap.size w w' := by
  obtain ⟨a, b⟩ := f
  have cS := fun W => small_any ⟨a.toArray⟩ W (by rw [text_size]; dsimp only at h1; omega)
  simp only [List.toList_toArray] at cS
  have cH := fun W hW => hasK_any b tx W h2 (by omega) hW
  have y0 := (Below.refl w.heap.size w).alloc (Nat.le_refl _) (.cells #[.string ⟨a.toArray⟩, .string ⟨b.toArray⟩] 74)
  have z0 := World.heap_alloc_new w (.cells #[.string ⟨a.toArray⟩, .string ⟨b.toArray⟩] 74)
  have k0 := below_same y0 hK
  have m0 := MaxL.below hM y0
  obtain ⟨w1, hw1⟩ : ∃ w1, w.alloc (.cells #[.string ⟨a.toArray⟩, .string ⟨b.toArray⟩] 74) = w1 := ⟨_, rfl⟩
  rw [hw1] at y0 z0 k0 m0
  have HW := Lib.hid hw1
  have hb := Below.refl w1.heap.size w1
  have hb := hb.drew
  have hXl := (Array.getElem?_eq_some_iff.1 z0).1
  have hKl := (Array.getElem?_eq_some_iff.1 k0).1
  have z1 := below_same hb z0
  have k1 := below_same hb k0
  have mm := MaxL.below m0 hb
  obtain ⟨p0, p1⟩ := two_cells z1
  obtain ⟨-, q1, q2, -, -, -⟩ := ksix_cells k1
  have Z := Lib.hid z0
  have KK := Lib.hid k0
  have M := Lib.hid m0
  have Y := Lib.hid y0
  clear hw1 z0 k0 z1 k1 y0 m0 hM hK h1 h2 ht
  dsimp only
  obtain ⟨A, hA⟩ : ∃ A, smallL a = A := ⟨_, rfl⟩
  rw [hA] at cS ⊢
  clear hA
  have keep : ∀ W, Below w1.heap.size w1 W → W.cell? ⟨w.heap.size, 0, none⟩ = some (.string ⟨a.toArray⟩) ∧ W.cell? ⟨w.heap.size, 1, none⟩ = some (.string ⟨b.toArray⟩) ∧ W.cell? ⟨K, 1, none⟩ = some (.string ⟨nm.toArray⟩) ∧ W.cell? ⟨K, 2, none⟩ = some (.string ⟨tx.toArray⟩) ∧ MaxL W := fun W h => by
    obtain ⟨u0, u1⟩ := two_cells (below_same h Z.out)
    obtain ⟨-, v1, v2, -, -, -⟩ := ksix_cells (below_same h KK.out)
    exact ⟨u0, u1, v1, v2, MaxL.below M.out h⟩
  have KEEP := Lib.hid keep
  clear keep
  by_cases he : A = nm
  · subst he
    have hbq : (A == A) = true := by simp
    rw [hbq, Bool.true_and]
    go_enter Tryz.func23, Tryz.ntmps23
    go_upto_region 1 with fail
    rw [show w.alloc (.cells #[.string ⟨a.toArray⟩, .string ⟨b.toArray⟩] 74) = w1 from HW.out]
    go_region_held3 (fun W => W.cell? ⟨w.heap.size, 0, none⟩ = some (.string ⟨a.toArray⟩) ∧ W.cell? ⟨w.heap.size, 1, none⟩ = some (.string ⟨b.toArray⟩) ∧ W.cell? ⟨K, 1, none⟩ = some (.string ⟨A.toArray⟩) ∧ W.cell? ⟨K, 2, none⟩ = some (.string ⟨tx.toArray⟩) ∧ MaxL W)
      (first | exact ⟨p0, p1, q1, q2, mm⟩ | exact KEEP.out _ hb)
      (first
        | (go_at_call 24; with_reducible refine (cS _).mono ?_; rintro e w2 ⟨rfl, h⟩; have hb := hb.trans (h.mono hb.size))
        | (go_at_call 25; with_reducible refine (cH _ (MaxL.below M.out hb)).mono ?_; rintro e w3 ⟨rfl, h⟩; have hb := hb.trans (h.mono hb.size)))
    go_wp2_with fail
    go_ret
    exact ⟨rfl, Y.out.trans (hb.mono Y.out.size)⟩
  · have hbq : (A == nm) = false := by rw [beq_eq_false_iff_ne]; exact he
    rw [hbq, Bool.false_and]
    go_enter Tryz.func23, Tryz.ntmps23
    go_upto_region 1 with fail
    rw [show w.alloc (.cells #[.string ⟨a.toArray⟩, .string ⟨b.toArray⟩] 74) = w1 from HW.out]
    have hS1 : (fun _ : World => True) w1.drew := trivial
    have hS0 : (fun W : World => W.cell? ⟨w.heap.size, 0, none⟩ = some (.string ⟨a.toArray⟩) ∧ W.cell? ⟨K, 1, none⟩ = some (.string ⟨nm.toArray⟩)) w1.drew := ⟨p0, q1⟩
    refine until_start (S := fun _ => True) (S0 := fun W => W.cell? ⟨w.heap.size, 0, none⟩ = some (.string ⟨a.toArray⟩) ∧ W.cell? ⟨K, 1, none⟩ = some (.string ⟨nm.toArray⟩)) (t := 5) (by kernel_rfl) ?_
    generalize w1.drew = wd at *
    refine until_take0 (i := 0) (v := ?v0) rfl (by kernel_rfl) (by kernel_rfl) (by kernel_rfl) (by rfl) (fun _ _ _ h => h) (Or.inl ⟨by rfl, ?y0⟩) hS0 (fun _ => hS1) ?r0
    case y0 => (intro W hSw; (try dsimp only at hSw); go_simp; try with_reducible rfl)
    try simp only [Act.put, List.setIfInBounds_toArray, List.set_cons_zero, List.set_cons_succ]
    refine until_take0 (i := 1) (v := ?v1) rfl (by kernel_rfl) (by kernel_rfl) (by kernel_rfl) (by rfl) (fun _ _ _ h => h) (Or.inl ⟨by rfl, ?y1⟩) hS0 (fun _ => hS1) ?r1
    case y1 => (intro W hSw; (try dsimp only at hSw); go_simp; try with_reducible rfl)
    try simp only [Act.put, List.setIfInBounds_toArray, List.set_cons_zero, List.set_cons_succ]
    refine until_take0 (i := 3) (v := ?v3) rfl (by kernel_rfl) (by kernel_rfl) (by kernel_rfl) (by rfl) (fun _ _ _ h => h) (Or.inl ⟨by rfl, ?y3⟩) hS0 (fun _ => hS1) ?r3
    case y3 => (intro W hSw; (try dsimp only at hSw); go_simp; try with_reducible rfl)
    try simp only [Act.put, List.setIfInBounds_toArray, List.set_cons_zero, List.set_cons_succ]
    refine until_take0 (i := 4) (v := ?v4) rfl (by kernel_rfl) (by kernel_rfl) (by kernel_rfl) (by rfl) (fun _ _ _ h => h) (Or.inl ⟨by rfl, ?y4⟩) hS0 (fun _ => hS1) ?r4
    case y4 => (intro W hSw; (try dsimp only at hSw); go_simp; try with_reducible rfl)
    try simp only [Act.put, List.setIfInBounds_toArray, List.set_cons_zero, List.set_cons_succ]
    refine until_step (i := 2) (by kernel_rfl) rfl (fun K' hK => ?_)
    go_simp
    (with_reducible refine (cS _).mono ?_)
    rintro e w2 ⟨rfl, h⟩
    have hb := hb.trans (h.mono hb.size)
    have kk := KEEP.out _ hb
    clear hS0
    have hS0 : (fun W : World => W.cell? ⟨w.heap.size, 0, none⟩ = some (.string ⟨a.toArray⟩) ∧ W.cell? ⟨K, 1, none⟩ = some (.string ⟨nm.toArray⟩)) w2 := ⟨kk.1, kk.2.2.1⟩
    have hS1 : (fun _ : World => True) w2 := trivial
    go_wp2_with fail
    refine hK.out _ _ hS0 (fun _ _ => trivial) ?_
    clear hK K'
    try simp only [Act.put, List.setIfInBounds_toArray, List.set_cons_zero, List.set_cons_succ]
    refine until_step (i := 5) (by kernel_rfl) rfl (fun K' hK => ?_)
    go_simp
    refine hK.out _ _ hS0 (fun _ _ => trivial) ?_
    clear hK K'
    try simp only [Act.put, List.setIfInBounds_toArray, List.set_cons_zero, List.set_cons_succ]
    refine until_step (i := 6) (by kernel_rfl) rfl (fun K' hK => ?_)
    go_simp
    refine hK.out _ _ hS0 (fun _ _ => trivial) ?_
    clear hK K'
    try simp only [Act.put, List.setIfInBounds_toArray, List.set_cons_zero, List.set_cons_succ]
    refine until_take0 (i := 7) (v := undef) rfl (by kernel_rfl) (by kernel_rfl) (by kernel_rfl) (by rfl) (fun _ _ _ h => h) (Or.inr ⟨by rfl, rfl⟩) hS0 (fun _ => hS1) ?r7
    try simp only [Act.put, List.setIfInBounds_toArray, List.set_cons_zero, List.set_cons_succ]
    refine until_take0 (i := 8) (v := undef) rfl (by kernel_rfl) (by kernel_rfl) (by kernel_rfl) (by rfl) (fun _ _ _ h => h) (Or.inr ⟨by rfl, rfl⟩) hS0 (fun _ => hS1) ?r8
    try simp only [Act.put, List.setIfInBounds_toArray, List.set_cons_zero, List.set_cons_succ]
    refine until_take0 (i := 9) (v := undef) rfl (by kernel_rfl) (by kernel_rfl) (by kernel_rfl) (by rfl) (fun _ _ _ h => h) (Or.inr ⟨by rfl, rfl⟩) hS0 (fun _ => hS1) ?r9
    try simp only [Act.put, List.setIfInBounds_toArray, List.set_cons_zero, List.set_cons_succ]
    refine until_take0 (i := 10) (v := undef) rfl (by kernel_rfl) (by kernel_rfl) (by kernel_rfl) (by rfl) (fun _ _ _ h => h) (Or.inr ⟨by rfl, rfl⟩) hS0 (fun _ => hS1) ?r10
    try simp only [Act.put, List.setIfInBounds_toArray, List.set_cons_zero, List.set_cons_succ]
    refine until_step (i := 11) (by kernel_rfl) rfl (fun K' hK => ?_)
    go_simp
    refine hK.out _ _ hS0 (fun _ _ => trivial) ?_
    clear hK K'
    try simp only [Act.put, List.setIfInBounds_toArray, List.set_cons_zero, List.set_cons_succ]
    refine until_step (i := 12) (by kernel_rfl) rfl (fun K' hK => ?_)
    go_simp
    refine hK.out _ _ hS0 (fun _ _ => trivial) ?_
    clear hK K'
    try simp only [Act.put, List.setIfInBounds_toArray, List.set_cons_zero, List.set_cons_succ]
    refine until_step (i := 13) (by kernel_rfl) rfl (fun K' hK => ?_)
    go_simp
    refine hK.out _ _ hS0 (fun _ _ => trivial) ?_
    clear hK K'
    try simp only [Act.put, List.setIfInBounds_toArray, List.set_cons_zero, List.set_cons_succ]
    refine until_done (by kernel_rfl) ?_ _
    go_wp2_with fail
    go_ret
    exact ⟨rfl, Y.out.trans (hb.mono Y.out.size)⟩
end Go.Proofs.YtcahhnjponeeeaaGreatDoor
namespace Go.Proofs.YtcahhnjponeeeaaGreatDoor
open Go.RowKit Go.Shelf Go.Sort
set_option linter.unusedSimpArgs false
set_option maxRecDepth 100000 in
set_option maxHeartbeats 4000000 in
theorem contF_any (ao : Option Addr) (cap : Nat) (l : List Fld) (p : Fld → Bool) (q : Value) (w : World) (hlm : l.length ≤ 9223372036854775807) (hcell : ∀ (j : Nat) (f : Fld), l[j]? = some f → ∃ b off, ao = some ⟨b, off, none⟩ ∧ b < w.heap.size ∧ w.cell? ⟨b, off + j * 2, none⟩ = some (.string ⟨f.1.toArray⟩) ∧ w.cell? ⟨b, off + j * 2 + 1, none⟩ = some (.string ⟨f.2.toArray⟩))
    (cF : ∀ (j : Nat) (f : Fld) (W : World), l[j]? = some f → Below w.heap.size w W → Calls Tryz.prog 23 #[.agg #[.string ⟨f.1.toArray⟩, .string ⟨f.2.toArray⟩], q] W fun e w' => e = .returned (.bool (p f)) ∧ Below W.heap.size W w') :
    Calls Tryz.prog 22 #[.slice ao l.length cap, .func (.func 23) #[] #[q]] w fun e w' => e = .returned (.bool (l.any p)) ∧ Below w.heap.size w w' := by
  have HC := Lib.hid hcell
  have HF := Lib.hid cF
  clear hcell cF
  have cI : Calls Tryz.prog 54 #[.slice ao l.length cap, .func (.func 23) #[] #[q]] w fun e w' => ∃ k : Int, e = .returned (.int .i64 k) ∧ (decide (0 ≤ k) = l.any p) ∧ Below w.heap.size w w' := by
    go_enter Tryz.func54, Tryz.ntmps54
    go_wp2_with fail
    go_loopg [5, 8] l.length (fun g s5 s8 wr => ∃ k : Nat, k + g = l.length ∧ s8 = .int .i64 (k : Int) ∧ Below w.heap.size w wr ∧ Hid ((l.take k).any p = false))
    case atStart => exact ⟨0, by omega, rfl, Below.refl _ _, Lib.hid rfl⟩
    case round =>
      obtain ⟨k, hk, rfl, hbr, HT⟩ := hrel
      by_cases hlt : k < l.length
      · obtain ⟨g', rfl⟩ : ∃ g', gk = g' + 1 := ⟨gk - 1, by omega⟩
        obtain ⟨r, hr⟩ : ∃ r, l[k]? = some r := ⟨l[k], List.getElem?_eq_getElem hlt⟩
        have htk : (l.take (k + 1)).any p = ((l.take k).any p || p r) := by rw [List.take_add_one, hr]; simp
        rw [HT.out, Bool.false_or] at htk
        obtain ⟨b, off, rfl, hb, c0, c1⟩ := HC.out k r hr
        have d0 := (hbr.cell (p := ⟨b, off + k * 2, none⟩) hb).trans c0
        have d1 := (hbr.cell (p := ⟨b, off + k * 2 + 1, none⟩) hb).trans c1
        have cF := HF.out k r wr hr hbr
        clear c0 c1
        have hltz : (k : Int) < (l.length : Int) := by omega
        cases hp : p r with
        | true =>
          rw [hp] at cF htk
          have HA : Hid (l.any p = true) := Lib.hid (by rw [List.any_eq_true]; exact ⟨r, List.mem_of_getElem? hr, hp⟩)
          clear hp hr htk
          go_wp2_with (go_at_call 23; go_loud (((with_reducible refine cF.mono ?_); rintro e w1 ⟨rfl, h⟩; have y := hbr.trans (h.mono hbr.size))))
          go_ret
          exact ⟨(k : Int), rfl, by rw [HA.out]; exact decide_eq_true (by omega), y⟩
        | false =>
          rw [hp] at cF htk
          have HT2 := Lib.hid htk
          clear hp hr htk
          go_wp2_with (go_at_call 23; go_loud (((with_reducible refine cF.mono ?_); rintro e w1 ⟨rfl, h⟩; have y := hbr.trans (h.mono hbr.size))))
          go_roundg g'
          case measure => omega
          case rel => exact ⟨k + 1, by omega, by go_num, y, HT2⟩
      · have HA : Hid (l.any p = false) := Lib.hid (by have := HT.out; rwa [List.take_of_length_le (by omega)] at this)
        go_wp2_with fail
        go_ret
        exact ⟨-1, rfl, by rw [HA.out]; rfl, hbr⟩
  go_enter Tryz.func22, Tryz.ntmps22
  go_wp2_with (go_at_call 54; go_loud (((with_reducible refine cI.mono ?_); rintro e w1 ⟨k, rfl, hk, h⟩; have HK := Lib.hid hk; clear hk)))
  go_ret
  exact ⟨by rw [← HK.out]; rfl, h⟩
set_option maxRecDepth 100000 in
set_option maxHeartbeats 4000000 in
theorem contK2_any (ao : Option Addr) (cap : Nat) (l : List KeyP) (vs : Nat → List Value) (p : KeyP → Bool) (q1 q2 q3 : Value) (w : World) (hlm : l.length ≤ 9223372036854775807) (hcell : ∀ (j : Nat) (t : KeyP), l[j]? = some t → ∃ b off, ao = some ⟨b, off, none⟩ ∧ b < w.heap.size ∧ ∀ (i : Nat) (u : Value), (vs j)[i]? = some u → w.cell? ⟨b, off + j * 6 + i, none⟩ = some u)
    (cF : ∀ (j : Nat) (t : KeyP) (W : World), l[j]? = some t → Below w.heap.size w W → (∃ a b c d e f, vs j = [a, b, c, d, e, f]) ∧ Calls Tryz.prog 29 #[.agg (vs j).toArray, q1, q2, q3] W fun e w' => e = .returned (.bool (p t)) ∧ Below W.heap.size W w') :
    Calls Tryz.prog 28 #[.slice ao l.length cap, .func (.func 29) #[] #[q1, q2, q3]] w fun e w' => e = .returned (.bool (l.any p)) ∧ Below w.heap.size w w' := by
  have HC := Lib.hid hcell
  have HF := Lib.hid cF
  clear hcell cF
  have cI : Calls Tryz.prog 59 #[.slice ao l.length cap, .func (.func 29) #[] #[q1, q2, q3]] w fun e w' => ∃ k : Int, e = .returned (.int .i64 k) ∧ (decide (0 ≤ k) = l.any p) ∧ Below w.heap.size w w' := by
    go_enter Tryz.func59, Tryz.ntmps59
    go_wp2_with fail
    go_loopg [5, 8] l.length (fun g s5 s8 wr => ∃ k : Nat, k + g = l.length ∧ s8 = .int .i64 (k : Int) ∧ Below w.heap.size w wr ∧ Hid ((l.take k).any p = false))
    case atStart => exact ⟨0, by omega, rfl, Below.refl _ _, Lib.hid rfl⟩
    case round =>
      obtain ⟨k, hk, rfl, hbr, HT⟩ := hrel
      by_cases hlt : k < l.length
      · obtain ⟨g', rfl⟩ : ∃ g', gk = g' + 1 := ⟨gk - 1, by omega⟩
        obtain ⟨r, hr⟩ : ∃ r, l[k]? = some r := ⟨l[k], List.getElem?_eq_getElem hlt⟩
        have htk : (l.take (k + 1)).any p = ((l.take k).any p || p r) := by rw [List.take_add_one, hr]; simp
        rw [HT.out, Bool.false_or] at htk
        obtain ⟨b, off, rfl, hb, c0⟩ := HC.out k r hr
        obtain ⟨⟨z0, z1, z2, z3, z4, z5, hz⟩, cF⟩ := HF.out k r wr hr hbr
        rw [hz] at c0 cF
        have d0 := (hbr.cell (p := ⟨b, off + k * 6, none⟩) hb).trans (c0 0 _ rfl)
        have d1 := (hbr.cell (p := ⟨b, off + k * 6 + 1, none⟩) hb).trans (c0 1 _ rfl)
        have d2 := (hbr.cell (p := ⟨b, off + k * 6 + 2, none⟩) hb).trans (c0 2 _ rfl)
        have d3 := (hbr.cell (p := ⟨b, off + k * 6 + 3, none⟩) hb).trans (c0 3 _ rfl)
        have d4 := (hbr.cell (p := ⟨b, off + k * 6 + 4, none⟩) hb).trans (c0 4 _ rfl)
        have d5 := (hbr.cell (p := ⟨b, off + k * 6 + 5, none⟩) hb).trans (c0 5 _ rfl)
        clear c0 hz
        have hltz : (k : Int) < (l.length : Int) := by omega
        cases hp : p r with
        | true =>
          rw [hp] at cF htk
          have HA : Hid (l.any p = true) := Lib.hid (by rw [List.any_eq_true]; exact ⟨r, List.mem_of_getElem? hr, hp⟩)
          clear hp hr htk
          go_wp2_with (go_at_call 29; go_loud (((with_reducible refine cF.mono ?_); rintro e w1 ⟨rfl, h⟩; have y := hbr.trans (h.mono hbr.size))))
          go_ret
          exact ⟨(k : Int), rfl, by rw [HA.out]; exact decide_eq_true (by omega), y⟩
        | false =>
          rw [hp] at cF htk
          have HT2 := Lib.hid htk
          clear hp hr htk
          go_wp2_with (go_at_call 29; go_loud (((with_reducible refine cF.mono ?_); rintro e w1 ⟨rfl, h⟩; have y := hbr.trans (h.mono hbr.size))))
          go_roundg g'
          case measure => omega
          case rel => exact ⟨k + 1, by omega, by go_num, y, HT2⟩
      · have HA : Hid (l.any p = false) := Lib.hid (by have := HT.out; rwa [List.take_of_length_le (by omega)] at this)
        go_wp2_with fail
        go_ret
        exact ⟨-1, rfl, by rw [HA.out]; rfl, hbr⟩
  go_enter Tryz.func28, Tryz.ntmps28
  go_wp2_with (go_at_call 59; go_loud (((with_reducible refine cI.mono ?_); rintro e w1 ⟨k, rfl, hk, h⟩; have HK := Lib.hid hk; clear hk)))
  go_ret
  exact ⟨by rw [← HK.out]; rfl, h⟩
set_option maxRecDepth 100000 in
set_option maxHeartbeats 4000000 in
theorem contK3_any (ao : Option Addr) (cap : Nat) (l : List KeyP) (vs : Nat → List Value) (p : KeyP → Bool) (q1 q2 q3 : Value) (w : World) (hlm : l.length ≤ 9223372036854775807) (hcell : ∀ (j : Nat) (t : KeyP), l[j]? = some t → ∃ b off, ao = some ⟨b, off, none⟩ ∧ b < w.heap.size ∧ ∀ (i : Nat) (u : Value), (vs j)[i]? = some u → w.cell? ⟨b, off + j * 6 + i, none⟩ = some u)
    (cF : ∀ (j : Nat) (t : KeyP) (W : World), l[j]? = some t → Below w.heap.size w W → (∃ a b c d e f, vs j = [a, b, c, d, e, f]) ∧ Calls Tryz.prog 30 #[.agg (vs j).toArray, q1, q2, q3] W fun e w' => e = .returned (.bool (p t)) ∧ Below W.heap.size W w') :
    Calls Tryz.prog 28 #[.slice ao l.length cap, .func (.func 30) #[] #[q1, q2, q3]] w fun e w' => e = .returned (.bool (l.any p)) ∧ Below w.heap.size w w' := by
  have HC := Lib.hid hcell
  have HF := Lib.hid cF
  clear hcell cF
  have cI : Calls Tryz.prog 59 #[.slice ao l.length cap, .func (.func 30) #[] #[q1, q2, q3]] w fun e w' => ∃ k : Int, e = .returned (.int .i64 k) ∧ (decide (0 ≤ k) = l.any p) ∧ Below w.heap.size w w' := by
    go_enter Tryz.func59, Tryz.ntmps59
    go_wp2_with fail
    go_loopg [5, 8] l.length (fun g s5 s8 wr => ∃ k : Nat, k + g = l.length ∧ s8 = .int .i64 (k : Int) ∧ Below w.heap.size w wr ∧ Hid ((l.take k).any p = false))
    case atStart => exact ⟨0, by omega, rfl, Below.refl _ _, Lib.hid rfl⟩
    case round =>
      obtain ⟨k, hk, rfl, hbr, HT⟩ := hrel
      by_cases hlt : k < l.length
      · obtain ⟨g', rfl⟩ : ∃ g', gk = g' + 1 := ⟨gk - 1, by omega⟩
        obtain ⟨r, hr⟩ : ∃ r, l[k]? = some r := ⟨l[k], List.getElem?_eq_getElem hlt⟩
        have htk : (l.take (k + 1)).any p = ((l.take k).any p || p r) := by rw [List.take_add_one, hr]; simp
        rw [HT.out, Bool.false_or] at htk
        obtain ⟨b, off, rfl, hb, c0⟩ := HC.out k r hr
        obtain ⟨⟨z0, z1, z2, z3, z4, z5, hz⟩, cF⟩ := HF.out k r wr hr hbr
        rw [hz] at c0 cF
        have d0 := (hbr.cell (p := ⟨b, off + k * 6, none⟩) hb).trans (c0 0 _ rfl)
        have d1 := (hbr.cell (p := ⟨b, off + k * 6 + 1, none⟩) hb).trans (c0 1 _ rfl)
        have d2 := (hbr.cell (p := ⟨b, off + k * 6 + 2, none⟩) hb).trans (c0 2 _ rfl)
        have d3 := (hbr.cell (p := ⟨b, off + k * 6 + 3, none⟩) hb).trans (c0 3 _ rfl)
        have d4 := (hbr.cell (p := ⟨b, off + k * 6 + 4, none⟩) hb).trans (c0 4 _ rfl)
        have d5 := (hbr.cell (p := ⟨b, off + k * 6 + 5, none⟩) hb).trans (c0 5 _ rfl)
        clear c0 hz
        have hltz : (k : Int) < (l.length : Int) := by omega
        cases hp : p r with
        | true =>
          rw [hp] at cF htk
          have HA : Hid (l.any p = true) := Lib.hid (by rw [List.any_eq_true]; exact ⟨r, List.mem_of_getElem? hr, hp⟩)
          clear hp hr htk
          go_wp2_with (go_at_call 30; go_loud (((with_reducible refine cF.mono ?_); rintro e w1 ⟨rfl, h⟩; have y := hbr.trans (h.mono hbr.size))))
          go_ret
          exact ⟨(k : Int), rfl, by rw [HA.out]; exact decide_eq_true (by omega), y⟩
        | false =>
          rw [hp] at cF htk
          have HT2 := Lib.hid htk
          clear hp hr htk
          go_wp2_with (go_at_call 30; go_loud (((with_reducible refine cF.mono ?_); rintro e w1 ⟨rfl, h⟩; have y := hbr.trans (h.mono hbr.size))))
          go_roundg g'
          case measure => omega
          case rel => exact ⟨k + 1, by omega, by go_num, y, HT2⟩
      · have HA : Hid (l.any p = false) := Lib.hid (by have := HT.out; rwa [List.take_of_length_le (by omega)] at this)
        go_wp2_with fail
        go_ret
        exact ⟨-1, rfl, by rw [HA.out]; rfl, hbr⟩
  go_enter Tryz.func28, Tryz.ntmps28
  go_wp2_with (go_at_call 59; go_loud (((with_reducible refine cI.mono ?_); rintro e w1 ⟨k, rfl, hk, h⟩; have HK := Lib.hid hk; clear hk)))
  go_ret
  exact ⟨by rw [← HK.out]; rfl, h⟩
end Go.Proofs.YtcahhnjponeeeaaGreatDoor
namespace Go.Proofs.YtcahhnjponeeeaaGreatDoor
open Go.RowKit Go.Shelf Go.Sort
set_option linter.unusedSimpArgs false
theorem holdsAny_any (x : LetK) : ∀ l : List KeyP, holdsAny x l = l.any (holdsK x)
  | [] => by simp [holdsAny]
  | k :: l => by rw [holdsAny, holdsAny_any x l, List.any_cons]
theorem holdsAll_all (x : LetK) : ∀ l : List KeyP, holdsAll x l = !(l.any fun k => !holdsK x k)
  | [] => by simp [holdsAll]
  | k :: l => by rw [holdsAll, holdsAll_all x l, List.any_cons, Bool.not_or, Bool.not_not]
theorem four_cells {w : World} {g : Nat} {a b c d : Value} {T : TypeId} (h : w.heap[g]? = some (.cells #[a, b, c, d] T (0, 0))) : w.cell? ⟨g, 0, none⟩ = some a ∧ w.cell? ⟨g, 1, none⟩ = some b ∧ w.cell? ⟨g, 2, none⟩ = some c ∧ w.cell? ⟨g, 3, none⟩ = some d := by
  refine ⟨?_, ?_, ?_, ?_⟩ <;> (rw [Lib.cell_of_heap h]; rfl)
theorem six_cells' {w : World} {g : Nat} {a b c d e f : Value} {T : TypeId} (h : w.heap[g]? = some (.cells #[a, b, c, d, e, f] T (0, 0))) : w.cell? ⟨g, 0, none⟩ = some a ∧ w.cell? ⟨g, 1, none⟩ = some b ∧ w.cell? ⟨g, 2, none⟩ = some c ∧ w.cell? ⟨g, 3, none⟩ = some d ∧ w.cell? ⟨g, 4, none⟩ = some e ∧ w.cell? ⟨g, 5, none⟩ = some f := by
  refine ⟨?_, ?_, ?_, ?_, ?_, ?_⟩ <;> (rw [Lib.cell_of_heap h]; rfl)
theorem one_cell {w : World} {g : Nat} {a : Value} {T : TypeId} (h : w.heap[g]? = some (.cells #[a] T (0, 0))) : w.cell? ⟨g, 0, none⟩ = some a := by
  rw [Lib.cell_of_heap h]; rfl
/-- the world in which Holds begins its work -/
structure HoldW (w w1 : World) (a b c d e f u fv dy tx wh mn gr : Value) : Prop where
  below : Below w.heap.size w w1
  k : w1.heap[w.heap.size]? = some (.cells #[a, b, c, d, e, f] 32 (0, 0))
  l : w1.heap[w.heap.size + 1]? = some (.cells #[u, fv, dy, tx] 24 (0, 0))
  n : w1.heap[w.heap.size + 2]? = some (.cells #[wh] 3 (0, 0))
  m : w1.heap[w.heap.size + 3]? = some (.cells #[mn, gr] 44 (0, 0))
theorem holdW_at (w : World) (a b c d e f u fv dy tx wh mn gr : Value) : HoldW w ((((w.alloc (.cells #[a, b, c, d, e, f] 32)).alloc (.cells #[u, fv, dy, tx] 24)).alloc (.cells #[wh] 3)).alloc (.cells #[mn, gr] 44)) a b c d e f u fv dy tx wh mn gr := by
  have s1 := alloc_size w (.cells #[a, b, c, d, e, f] 32)
  have k1 := World.heap_alloc_new w (.cells #[a, b, c, d, e, f] 32)
  have b1 := (Below.refl w.heap.size w).alloc (Nat.le_refl _) (.cells #[a, b, c, d, e, f] 32)
  generalize w.alloc (.cells #[a, b, c, d, e, f] 32) = w1 at *
  have s2 := alloc_size w1 (.cells #[u, fv, dy, tx] 24)
  have l2 := World.heap_alloc_new w1 (.cells #[u, fv, dy, tx] 24)
  have k2 := alloc_same (x := .cells #[u, fv, dy, tx] 24) k1
  have b2 := b1.alloc (by omega) (.cells #[u, fv, dy, tx] 24)
  generalize w1.alloc (.cells #[u, fv, dy, tx] 24) = w2 at *
  have s3 := alloc_size w2 (.cells #[wh] 3)
  have n3 := World.heap_alloc_new w2 (.cells #[wh] 3)
  have k3 := alloc_same (x := .cells #[wh] 3) k2
  have l3 := alloc_same (x := .cells #[wh] 3) l2
  have b3 := b2.alloc (by omega) (.cells #[wh] 3)
  generalize w2.alloc (.cells #[wh] 3) = w3 at *
  have m4 := World.heap_alloc_new w3 (.cells #[mn, gr] 44)
  have k4 := alloc_same (x := .cells #[mn, gr] 44) k3
  have l4 := alloc_same (x := .cells #[mn, gr] 44) l3
  have n4 := alloc_same (x := .cells #[mn, gr] 44) n3
  have b4 := b3.alloc (by omega) (.cells #[mn, gr] 44)
  rw [s1] at l4
  rw [s2, s1] at n4
  rw [s3, s2, s1] at m4
  exact ⟨b4, k4, l4, n4, m4⟩
theorem splitHd_len2 (S : List UInt8) : (splitHd S).2.length ≤ S.length := by
  unfold splitHd
  repeat' split
  all_goals simp
theorem fld_open {W : World} {v : Value} {l : List Fld} (hv : FldRow W v l) : ∃ ao cap, v = .slice ao l.length cap ∧ (∀ (j : Nat) (f : Fld), l[j]? = some f → ∃ b off, ao = some ⟨b, off, none⟩ ∧ b < W.heap.size ∧ W.cell? ⟨b, off + j * 2, none⟩ = some (.string ⟨f.1.toArray⟩) ∧ W.cell? ⟨b, off + j * 2 + 1, none⟩ = some (.string ⟨f.2.toArray⟩)) := by
  rcases hv with ⟨rfl, rfl⟩ | ⟨b, off, cap, rfl, hlt, hc⟩
  · exact ⟨none, 0, rfl, fun j f hj => by simp at hj⟩
  · exact ⟨_, cap, rfl, fun j f hj => ⟨b, off, rfl, hlt, (hc j f hj).1, (hc j f hj).2⟩⟩
theorem fields_bad {S : List UInt8} {E : Nat × Nat} (h : fieldsL S = .inl E) (w : World) (hs : S.length ≤ 9000) (hM : MaxL w) : Calls Tryz.prog 21 #[.string ⟨S.toArray⟩] w fun e w' => ∃ g, e = .returned (.tuple #[.slice none 0 0, .iface 104 (.pointer (some ⟨g, 0, none⟩))]) ∧ Below w.heap.size w w' := by
  refine (fields_any S w hs hM).mono ?_
  rw [h]
  rintro e w' ⟨v, rfl, ⟨g, rfl, -, -⟩, hb⟩
  exact ⟨g, rfl, hb⟩
theorem fields_good {S : List UInt8} {l : List Fld} (h : fieldsL S = .inr l) (w : World) (hs : S.length ≤ 9000) (hM : MaxL w) : Calls Tryz.prog 21 #[.string ⟨S.toArray⟩] w fun e w' => ∃ ao cap, e = .returned (.tuple #[.slice ao l.length cap, .nilIface]) ∧ Below w.heap.size w w' ∧ Lens l ∧
    (∀ (j : Nat) (f : Fld), l[j]? = some f → ∃ b off, ao = some ⟨b, off, none⟩ ∧ b < w'.heap.size ∧ w'.cell? ⟨b, off + j * 2, none⟩ = some (.string ⟨f.1.toArray⟩) ∧ w'.cell? ⟨b, off + j * 2 + 1, none⟩ = some (.string ⟨f.2.toArray⟩)) := by
  refine (fields_any S w hs hM).mono ?_
  rw [h]
  rintro e w' ⟨v, rfl, ⟨ao, cap, rfl, hr, hL⟩, hb⟩
  obtain ⟨ao', cap', e, hc⟩ := fld_open hr
  cases e
  exact ⟨ao, cap, rfl, hb, hL, hc⟩
set_option maxRecDepth 100000 in
set_option maxHeartbeats 4000000 in
theorem hclos2_any (a b c d e f : Value) (L N M : Nat) (u fv dy tx wh mn gr : Value) (W : World) (hL : W.heap[L]? = some (.cells #[u, fv, dy, tx] 24 (0, 0))) (hN : W.heap[N]? = some (.cells #[wh] 3 (0, 0))) (hM : W.heap[M]? = some (.cells #[mn, gr] 44 (0, 0))) (r : Bool)
    (cH : ∀ W', Below W.heap.size W W' → Calls Tryz.prog 10 #[.agg #[a, b, c, d, e, f], .agg #[u, fv, dy, tx], wh, .agg #[mn, gr]] W' fun e w' => e = .returned (.bool r) ∧ Below W'.heap.size W' w') :
    Calls Tryz.prog 29 #[.agg #[a, b, c, d, e, f], .pointer (some ⟨L, 0, none⟩), .pointer (some ⟨N, 0, none⟩), .pointer (some ⟨M, 0, none⟩)] W fun e w' => e = .returned (.bool r) ∧ Below W.heap.size W w' := by
  have y0 := (Below.refl W.heap.size W).alloc (Nat.le_refl _) (.cells #[a, b, c, d, e, f] 32)
  have z0 := World.heap_alloc_new W (.cells #[a, b, c, d, e, f] 32)
  have cH1 := cH _ y0
  obtain ⟨l0, l1, l2, l3⟩ := four_cells (below_same y0 hL)
  have n0 := one_cell (below_same y0 hN)
  obtain ⟨m0, m1⟩ := two_cells (below_same y0 hM)
  obtain ⟨k0, k1, k2, k3, k4, k5⟩ := six_cells' z0
  have Y := Lib.hid y0
  clear cH y0 z0 hL hN hM
  go_enter Tryz.func29, Tryz.ntmps29
  go_upto_region 1 with fail
  generalize W.alloc (.cells #[a, b, c, d, e, f] 32) = w1 at *
  go_wp2_with (go_at_call 10; go_loud (((with_reducible refine cH1.mono ?_); rintro e w2 ⟨rfl, h⟩; have y := Y.out.trans (h.mono Y.out.size))))
  go_ret
  exact ⟨rfl, y⟩
set_option maxRecDepth 100000 in
set_option maxHeartbeats 4000000 in
theorem hclos3_any (a b c d e f : Value) (L N M : Nat) (u fv dy tx wh mn gr : Value) (W : World) (hL : W.heap[L]? = some (.cells #[u, fv, dy, tx] 24 (0, 0))) (hN : W.heap[N]? = some (.cells #[wh] 3 (0, 0))) (hM : W.heap[M]? = some (.cells #[mn, gr] 44 (0, 0))) (r : Bool)
    (cH : ∀ W', Below W.heap.size W W' → Calls Tryz.prog 10 #[.agg #[a, b, c, d, e, f], .agg #[u, fv, dy, tx], wh, .agg #[mn, gr]] W' fun e w' => e = .returned (.bool r) ∧ Below W'.heap.size W' w') :
    Calls Tryz.prog 30 #[.agg #[a, b, c, d, e, f], .pointer (some ⟨L, 0, none⟩), .pointer (some ⟨N, 0, none⟩), .pointer (some ⟨M, 0, none⟩)] W fun e w' => e = .returned (.bool (!r)) ∧ Below W.heap.size W w' := by
  have y0 := (Below.refl W.heap.size W).alloc (Nat.le_refl _) (.cells #[a, b, c, d, e, f] 32)
  have z0 := World.heap_alloc_new W (.cells #[a, b, c, d, e, f] 32)
  have cH1 := cH _ y0
  obtain ⟨l0, l1, l2, l3⟩ := four_cells (below_same y0 hL)
  have n0 := one_cell (below_same y0 hN)
  obtain ⟨m0, m1⟩ := two_cells (below_same y0 hM)
  obtain ⟨k0, k1, k2, k3, k4, k5⟩ := six_cells' z0
  have Y := Lib.hid y0
  clear cH y0 z0 hL hN hM
  go_enter Tryz.func30, Tryz.ntmps30
  go_upto_region 1 with fail
  generalize W.alloc (.cells #[a, b, c, d, e, f] 32) = w1 at *
  go_wp2_with (go_at_call 10; go_loud (((with_reducible refine cH1.mono ?_); rintro e w2 ⟨rfl, h⟩; have y := Y.out.trans (h.mono Y.out.size))))
  go_ret
  exact ⟨rfl, y⟩
theorem keysC2 (x : LetK) (fv : Value) (w : World) (keys : List KeyP) (ka : Option Addr) (kc : Nat) (vs : Nat → List Value) (hkl : keys.length ≤ 9223372036854775807) (h6 : ∀ (j : Nat) (t : KeyP), keys[j]? = some t → ∃ a b c d e f, vs j = [a, b, c, d, e, f])
    (hcell : ∀ (j : Nat) (t : KeyP), keys[j]? = some t → ∃ b off, ka = some ⟨b, off, none⟩ ∧ b < w.heap.size ∧ ∀ (i : Nat) (u : Value), (vs j)[i]? = some u → w.cell? ⟨b, off + j * 6 + i, none⟩ = some u)
    (ih : ∀ (j : Nat) (t : KeyP), keys[j]? = some t → ∀ W, Below w.heap.size w W → Calls Tryz.prog 10 #[.agg (vs j).toArray, .agg #[.int .i64 x.uid, fv, .int .i64 x.day, .string ⟨x.text.toArray⟩], .int .i64 x.which, .agg #[.int .i64 x.many, .int .i64 x.greatest]] W fun e w' => e = .returned (.bool (holdsK x t)) ∧ Below W.heap.size W w')
    (w1 : World) {a b c d e f : Value} (hw : HoldW w w1 a b c d e f (.int .i64 x.uid) fv (.int .i64 x.day) (.string ⟨x.text.toArray⟩) (.int .i64 x.which) (.int .i64 x.many) (.int .i64 x.greatest)) :
    Calls Tryz.prog 28 #[.slice ka keys.length kc, .func (.func 29) #[] #[.pointer (some ⟨w.heap.size + 1, 0, none⟩), .pointer (some ⟨w.heap.size + 2, 0, none⟩), .pointer (some ⟨w.heap.size + 3, 0, none⟩)]] w1 fun e w' => e = .returned (.bool (keys.any fun t => holdsK x t)) ∧ Below w1.heap.size w1 w' := by
  refine contK2_any ka kc keys vs (fun t => holdsK x t) _ _ _ w1 hkl (fun j t hj => ?_) (fun j t W hj hb => ?_)
  · obtain ⟨b, off, e, hb, hc⟩ := hcell j t hj
    exact ⟨b, off, e, Nat.lt_of_lt_of_le hb hw.below.size, fun i u hu => (hw.below.cell (p := ⟨b, off + j * 6 + i, none⟩) hb).trans (hc i u hu)⟩
  · obtain ⟨a, b, c, d, e, f, hv⟩ := h6 j t hj
    refine ⟨⟨a, b, c, d, e, f, hv⟩, ?_⟩
    have h0 := ih j t hj
    rw [hv] at h0 ⊢
    have hwW := hw.below.trans (hb.mono hw.below.size)
    exact hclos2_any a b c d e f _ _ _ _ fv _ _ _ _ _ W (below_same hb hw.l) (below_same hb hw.n) (below_same hb hw.m) (holdsK x t) (fun W' hW' => h0 W' (hwW.trans (hW'.mono hwW.size)))
theorem keysC3 (x : LetK) (fv : Value) (w : World) (keys : List KeyP) (ka : Option Addr) (kc : Nat) (vs : Nat → List Value) (hkl : keys.length ≤ 9223372036854775807) (h6 : ∀ (j : Nat) (t : KeyP), keys[j]? = some t → ∃ a b c d e f, vs j = [a, b, c, d, e, f])
    (hcell : ∀ (j : Nat) (t : KeyP), keys[j]? = some t → ∃ b off, ka = some ⟨b, off, none⟩ ∧ b < w.heap.size ∧ ∀ (i : Nat) (u : Value), (vs j)[i]? = some u → w.cell? ⟨b, off + j * 6 + i, none⟩ = some u)
    (ih : ∀ (j : Nat) (t : KeyP), keys[j]? = some t → ∀ W, Below w.heap.size w W → Calls Tryz.prog 10 #[.agg (vs j).toArray, .agg #[.int .i64 x.uid, fv, .int .i64 x.day, .string ⟨x.text.toArray⟩], .int .i64 x.which, .agg #[.int .i64 x.many, .int .i64 x.greatest]] W fun e w' => e = .returned (.bool (holdsK x t)) ∧ Below W.heap.size W w')
    (w1 : World) {a b c d e f : Value} (hw : HoldW w w1 a b c d e f (.int .i64 x.uid) fv (.int .i64 x.day) (.string ⟨x.text.toArray⟩) (.int .i64 x.which) (.int .i64 x.many) (.int .i64 x.greatest)) :
    Calls Tryz.prog 28 #[.slice ka keys.length kc, .func (.func 30) #[] #[.pointer (some ⟨w.heap.size + 1, 0, none⟩), .pointer (some ⟨w.heap.size + 2, 0, none⟩), .pointer (some ⟨w.heap.size + 3, 0, none⟩)]] w1 fun e w' => e = .returned (.bool (keys.any fun t => !holdsK x t)) ∧ Below w1.heap.size w1 w' := by
  refine contK3_any ka kc keys vs (fun t => !holdsK x t) _ _ _ w1 hkl (fun j t hj => ?_) (fun j t W hj hb => ?_)
  · obtain ⟨b, off, e, hb, hc⟩ := hcell j t hj
    exact ⟨b, off, e, Nat.lt_of_lt_of_le hb hw.below.size, fun i u hu => (hw.below.cell (p := ⟨b, off + j * 6 + i, none⟩) hb).trans (hc i u hu)⟩
  · obtain ⟨a, b, c, d, e, f, hv⟩ := h6 j t hj
    refine ⟨⟨a, b, c, d, e, f, hv⟩, ?_⟩
    have h0 := ih j t hj
    rw [hv] at h0 ⊢
    have hwW := hw.below.trans (hb.mono hw.below.size)
    exact hclos3_any a b c d e f _ _ _ _ fv _ _ _ _ _ W (below_same hb hw.l) (below_same hb hw.n) (below_same hb hw.m) (holdsK x t) (fun W' hW' => h0 W' (hwW.trans (hW'.mono hwW.size)))
set_option maxRecDepth 100000 in
set_option maxHeartbeats 8000000 in
theorem hold_all (sv kv : Value) (name text : List UInt8) (n : Int) (fv : Value) (x : LetK) (w : World) :
    Calls Tryz.prog 10 #[.agg #[.int .i64 1, .string ⟨name.toArray⟩, .string ⟨text.toArray⟩, .int .i64 n, sv, kv], .agg #[.int .i64 x.uid, fv, .int .i64 x.day, .string ⟨x.text.toArray⟩], .int .i64 x.which, .agg #[.int .i64 x.many, .int .i64 x.greatest]] w fun e w' => e = .returned (.bool (true)) ∧ Below w.heap.size w w' := by
  have hw := holdW_at w (.int .i64 1) (.string ⟨name.toArray⟩) (.string ⟨text.toArray⟩) (.int .i64 n) sv kv (.int .i64 x.uid) fv (.int .i64 x.day) (.string ⟨x.text.toArray⟩) (.int .i64 x.which) (.int .i64 x.many) (.int .i64 x.greatest)
  obtain ⟨k0, k1, k2, k3, k4, k5⟩ := six_cells' hw.k
  obtain ⟨l0, l1, l2, l3⟩ := four_cells hw.l
  have n0 := one_cell hw.n
  obtain ⟨m0, m1⟩ := two_cells hw.m
  have Y := Lib.hid hw.below
  clear hw
  go_enter Tryz.func10, Tryz.ntmps10
  go_upto_region 1 with fail
  generalize (((w.alloc (.cells #[.int .i64 1, .string ⟨name.toArray⟩, .string ⟨text.toArray⟩, .int .i64 n, sv, kv] 32)).alloc (.cells #[.int .i64 x.uid, fv, .int .i64 x.day, .string ⟨x.text.toArray⟩] 24)).alloc (.cells #[.int .i64 x.which] 3)).alloc (.cells #[.int .i64 x.many, .int .i64 x.greatest] 44) = w1 at *
  go_wp2_with fail
  go_ret
  exact ⟨rfl, Y.out⟩
set_option maxRecDepth 100000 in
set_option maxHeartbeats 8000000 in
theorem hold_larger (sv kv : Value) (name text : List UInt8) (n : Int) (fv : Value) (x : LetK) (w : World) :
    Calls Tryz.prog 10 #[.agg #[.int .i64 6, .string ⟨name.toArray⟩, .string ⟨text.toArray⟩, .int .i64 n, sv, kv], .agg #[.int .i64 x.uid, fv, .int .i64 x.day, .string ⟨x.text.toArray⟩], .int .i64 x.which, .agg #[.int .i64 x.many, .int .i64 x.greatest]] w fun e w' => e = .returned (.bool (decide (n < (x.text.length : Int)))) ∧ Below w.heap.size w w' := by
  have hw := holdW_at w (.int .i64 6) (.string ⟨name.toArray⟩) (.string ⟨text.toArray⟩) (.int .i64 n) sv kv (.int .i64 x.uid) fv (.int .i64 x.day) (.string ⟨x.text.toArray⟩) (.int .i64 x.which) (.int .i64 x.many) (.int .i64 x.greatest)
  obtain ⟨k0, k1, k2, k3, k4, k5⟩ := six_cells' hw.k
  obtain ⟨l0, l1, l2, l3⟩ := four_cells hw.l
  have n0 := one_cell hw.n
  obtain ⟨m0, m1⟩ := two_cells hw.m
  have Y := Lib.hid hw.below
  clear hw
  go_enter Tryz.func10, Tryz.ntmps10
  go_upto_region 1 with fail
  generalize (((w.alloc (.cells #[.int .i64 6, .string ⟨name.toArray⟩, .string ⟨text.toArray⟩, .int .i64 n, sv, kv] 32)).alloc (.cells #[.int .i64 x.uid, fv, .int .i64 x.day, .string ⟨x.text.toArray⟩] 24)).alloc (.cells #[.int .i64 x.which] 3)).alloc (.cells #[.int .i64 x.many, .int .i64 x.greatest] 44) = w1 at *
  go_wp2_with fail
  go_ret
  exact ⟨rfl, Y.out⟩
set_option maxRecDepth 100000 in
set_option maxHeartbeats 8000000 in
theorem hold_smaller (sv kv : Value) (name text : List UInt8) (n : Int) (fv : Value) (x : LetK) (w : World) :
    Calls Tryz.prog 10 #[.agg #[.int .i64 7, .string ⟨name.toArray⟩, .string ⟨text.toArray⟩, .int .i64 n, sv, kv], .agg #[.int .i64 x.uid, fv, .int .i64 x.day, .string ⟨x.text.toArray⟩], .int .i64 x.which, .agg #[.int .i64 x.many, .int .i64 x.greatest]] w fun e w' => e = .returned (.bool (decide ((x.text.length : Int) < n))) ∧ Below w.heap.size w w' := by
  have hw := holdW_at w (.int .i64 7) (.string ⟨name.toArray⟩) (.string ⟨text.toArray⟩) (.int .i64 n) sv kv (.int .i64 x.uid) fv (.int .i64 x.day) (.string ⟨x.text.toArray⟩) (.int .i64 x.which) (.int .i64 x.many) (.int .i64 x.greatest)
  obtain ⟨k0, k1, k2, k3, k4, k5⟩ := six_cells' hw.k
  obtain ⟨l0, l1, l2, l3⟩ := four_cells hw.l
  have n0 := one_cell hw.n
  obtain ⟨m0, m1⟩ := two_cells hw.m
  have Y := Lib.hid hw.below
  clear hw
  go_enter Tryz.func10, Tryz.ntmps10
  go_upto_region 1 with fail
  generalize (((w.alloc (.cells #[.int .i64 7, .string ⟨name.toArray⟩, .string ⟨text.toArray⟩, .int .i64 n, sv, kv] 32)).alloc (.cells #[.int .i64 x.uid, fv, .int .i64 x.day, .string ⟨x.text.toArray⟩] 24)).alloc (.cells #[.int .i64 x.which] 3)).alloc (.cells #[.int .i64 x.many, .int .i64 x.greatest] 44) = w1 at *
  go_wp2_with fail
  go_ret
  exact ⟨rfl, Y.out⟩
set_option maxRecDepth 100000 in
set_option maxHeartbeats 8000000 in
theorem hold_before (sv kv : Value) (name text : List UInt8) (n : Int) (fv : Value) (x : LetK) (w : World) :
    Calls Tryz.prog 10 #[.agg #[.int .i64 8, .string ⟨name.toArray⟩, .string ⟨text.toArray⟩, .int .i64 n, sv, kv], .agg #[.int .i64 x.uid, fv, .int .i64 x.day, .string ⟨x.text.toArray⟩], .int .i64 x.which, .agg #[.int .i64 x.many, .int .i64 x.greatest]] w fun e w' => e = .returned (.bool (decide (x.day < n))) ∧ Below w.heap.size w w' := by
  have hw := holdW_at w (.int .i64 8) (.string ⟨name.toArray⟩) (.string ⟨text.toArray⟩) (.int .i64 n) sv kv (.int .i64 x.uid) fv (.int .i64 x.day) (.string ⟨x.text.toArray⟩) (.int .i64 x.which) (.int .i64 x.many) (.int .i64 x.greatest)
  obtain ⟨k0, k1, k2, k3, k4, k5⟩ := six_cells' hw.k
  obtain ⟨l0, l1, l2, l3⟩ := four_cells hw.l
  have n0 := one_cell hw.n
  obtain ⟨m0, m1⟩ := two_cells hw.m
  have Y := Lib.hid hw.below
  clear hw
  go_enter Tryz.func10, Tryz.ntmps10
  go_upto_region 1 with fail
  generalize (((w.alloc (.cells #[.int .i64 8, .string ⟨name.toArray⟩, .string ⟨text.toArray⟩, .int .i64 n, sv, kv] 32)).alloc (.cells #[.int .i64 x.uid, fv, .int .i64 x.day, .string ⟨x.text.toArray⟩] 24)).alloc (.cells #[.int .i64 x.which] 3)).alloc (.cells #[.int .i64 x.many, .int .i64 x.greatest] 44) = w1 at *
  go_wp2_with fail
  go_ret
  exact ⟨rfl, Y.out⟩
set_option maxRecDepth 100000 in
set_option maxHeartbeats 8000000 in
theorem hold_on (sv kv : Value) (name text : List UInt8) (n : Int) (fv : Value) (x : LetK) (w : World) :
    Calls Tryz.prog 10 #[.agg #[.int .i64 9, .string ⟨name.toArray⟩, .string ⟨text.toArray⟩, .int .i64 n, sv, kv], .agg #[.int .i64 x.uid, fv, .int .i64 x.day, .string ⟨x.text.toArray⟩], .int .i64 x.which, .agg #[.int .i64 x.many, .int .i64 x.greatest]] w fun e w' => e = .returned (.bool (decide (x.day = n))) ∧ Below w.heap.size w w' := by
  have hw := holdW_at w (.int .i64 9) (.string ⟨name.toArray⟩) (.string ⟨text.toArray⟩) (.int .i64 n) sv kv (.int .i64 x.uid) fv (.int .i64 x.day) (.string ⟨x.text.toArray⟩) (.int .i64 x.which) (.int .i64 x.many) (.int .i64 x.greatest)
  obtain ⟨k0, k1, k2, k3, k4, k5⟩ := six_cells' hw.k
  obtain ⟨l0, l1, l2, l3⟩ := four_cells hw.l
  have n0 := one_cell hw.n
  obtain ⟨m0, m1⟩ := two_cells hw.m
  have Y := Lib.hid hw.below
  clear hw
  go_enter Tryz.func10, Tryz.ntmps10
  go_upto_region 1 with fail
  generalize (((w.alloc (.cells #[.int .i64 9, .string ⟨name.toArray⟩, .string ⟨text.toArray⟩, .int .i64 n, sv, kv] 32)).alloc (.cells #[.int .i64 x.uid, fv, .int .i64 x.day, .string ⟨x.text.toArray⟩] 24)).alloc (.cells #[.int .i64 x.which] 3)).alloc (.cells #[.int .i64 x.many, .int .i64 x.greatest] 44) = w1 at *
  go_wp2_with fail
  go_ret
  exact ⟨rfl, Y.out⟩
set_option maxRecDepth 100000 in
set_option maxHeartbeats 8000000 in
theorem hold_since (sv kv : Value) (name text : List UInt8) (n : Int) (fv : Value) (x : LetK) (w : World) :
    Calls Tryz.prog 10 #[.agg #[.int .i64 10, .string ⟨name.toArray⟩, .string ⟨text.toArray⟩, .int .i64 n, sv, kv], .agg #[.int .i64 x.uid, fv, .int .i64 x.day, .string ⟨x.text.toArray⟩], .int .i64 x.which, .agg #[.int .i64 x.many, .int .i64 x.greatest]] w fun e w' => e = .returned (.bool (decide (n ≤ x.day))) ∧ Below w.heap.size w w' := by
  have hw := holdW_at w (.int .i64 10) (.string ⟨name.toArray⟩) (.string ⟨text.toArray⟩) (.int .i64 n) sv kv (.int .i64 x.uid) fv (.int .i64 x.day) (.string ⟨x.text.toArray⟩) (.int .i64 x.which) (.int .i64 x.many) (.int .i64 x.greatest)
  obtain ⟨k0, k1, k2, k3, k4, k5⟩ := six_cells' hw.k
  obtain ⟨l0, l1, l2, l3⟩ := four_cells hw.l
  have n0 := one_cell hw.n
  obtain ⟨m0, m1⟩ := two_cells hw.m
  have Y := Lib.hid hw.below
  clear hw
  go_enter Tryz.func10, Tryz.ntmps10
  go_upto_region 1 with fail
  generalize (((w.alloc (.cells #[.int .i64 10, .string ⟨name.toArray⟩, .string ⟨text.toArray⟩, .int .i64 n, sv, kv] 32)).alloc (.cells #[.int .i64 x.uid, fv, .int .i64 x.day, .string ⟨x.text.toArray⟩] 24)).alloc (.cells #[.int .i64 x.which] 3)).alloc (.cells #[.int .i64 x.many, .int .i64 x.greatest] 44) = w1 at *
  go_wp2_with fail
  go_ret
  exact ⟨rfl, Y.out⟩
set_option maxRecDepth 100000 in
set_option maxHeartbeats 8000000 in
theorem hold_flag (sv kv : Value) (name text : List UInt8) (n : Int) (fv : Value) (x : LetK) (w : World) (hf : SRow w fv x.flags) (hl : x.flags.length ≤ 1000000) :
    Calls Tryz.prog 10 #[.agg #[.int .i64 2, .string ⟨name.toArray⟩, .string ⟨text.toArray⟩, .int .i64 n, sv, kv], .agg #[.int .i64 x.uid, fv, .int .i64 x.day, .string ⟨x.text.toArray⟩], .int .i64 x.which, .agg #[.int .i64 x.many, .int .i64 x.greatest]] w fun e w' => e = .returned (.bool (decide (name ∈ x.flags))) ∧ Below w.heap.size w w' := by
  have hw := holdW_at w (.int .i64 2) (.string ⟨name.toArray⟩) (.string ⟨text.toArray⟩) (.int .i64 n) sv kv (.int .i64 x.uid) fv (.int .i64 x.day) (.string ⟨x.text.toArray⟩) (.int .i64 x.which) (.int .i64 x.many) (.int .i64 x.greatest)
  have cC := contains_any fv x.flags name _ (hf.below hw.below) hl
  clear hf
  obtain ⟨k0, k1, k2, k3, k4, k5⟩ := six_cells' hw.k
  obtain ⟨l0, l1, l2, l3⟩ := four_cells hw.l
  have n0 := one_cell hw.n
  obtain ⟨m0, m1⟩ := two_cells hw.m
  have Y := Lib.hid hw.below
  clear hw
  go_enter Tryz.func10, Tryz.ntmps10
  go_upto_region 1 with fail
  generalize (((w.alloc (.cells #[.int .i64 2, .string ⟨name.toArray⟩, .string ⟨text.toArray⟩, .int .i64 n, sv, kv] 32)).alloc (.cells #[.int .i64 x.uid, fv, .int .i64 x.day, .string ⟨x.text.toArray⟩] 24)).alloc (.cells #[.int .i64 x.which] 3)).alloc (.cells #[.int .i64 x.many, .int .i64 x.greatest] 44) = w1 at *
  go_wp2_with (go_at_call 20; go_loud (((with_reducible refine cC.mono ?_); rintro e w2 ⟨rfl, hw2⟩; rw [← hw2]; clear hw2)))
  go_ret
  exact ⟨rfl, Y.out⟩
set_option maxRecDepth 100000 in
set_option maxHeartbeats 8000000 in
theorem hold_text (sv kv : Value) (name text : List UInt8) (n : Int) (fv : Value) (x : LetK) (w : World) (hx : x.text.length ≤ 9000) (ht : text.length ≤ 2000000) (hM : MaxL w) :
    Calls Tryz.prog 10 #[.agg #[.int .i64 5, .string ⟨name.toArray⟩, .string ⟨text.toArray⟩, .int .i64 n, sv, kv], .agg #[.int .i64 x.uid, fv, .int .i64 x.day, .string ⟨x.text.toArray⟩], .int .i64 x.which, .agg #[.int .i64 x.many, .int .i64 x.greatest]] w fun e w' => e = .returned (.bool (hasK x.text text)) ∧ Below w.heap.size w w' := by
  have hw := holdW_at w (.int .i64 5) (.string ⟨name.toArray⟩) (.string ⟨text.toArray⟩) (.int .i64 n) sv kv (.int .i64 x.uid) fv (.int .i64 x.day) (.string ⟨x.text.toArray⟩) (.int .i64 x.which) (.int .i64 x.many) (.int .i64 x.greatest)
  have cC := hasK_any x.text text _ (by omega) (by omega) (MaxL.below hM hw.below)
  generalize hasK x.text text = r at *
  clear hM
  obtain ⟨k0, k1, k2, k3, k4, k5⟩ := six_cells' hw.k
  obtain ⟨l0, l1, l2, l3⟩ := four_cells hw.l
  have n0 := one_cell hw.n
  obtain ⟨m0, m1⟩ := two_cells hw.m
  have Y := Lib.hid hw.below
  clear hw
  go_enter Tryz.func10, Tryz.ntmps10
  go_upto_region 1 with fail
  generalize (((w.alloc (.cells #[.int .i64 5, .string ⟨name.toArray⟩, .string ⟨text.toArray⟩, .int .i64 n, sv, kv] 32)).alloc (.cells #[.int .i64 x.uid, fv, .int .i64 x.day, .string ⟨x.text.toArray⟩] 24)).alloc (.cells #[.int .i64 x.which] 3)).alloc (.cells #[.int .i64 x.many, .int .i64 x.greatest] 44) = w1 at *
  go_wp2_with (go_at_call 25; go_loud (((with_reducible refine cC.mono ?_); rintro e w2 ⟨rfl, h⟩; have y := Y.out.trans (h.mono Y.out.size))))
  go_ret
  exact ⟨rfl, y⟩
set_option maxRecDepth 100000 in
set_option maxHeartbeats 8000000 in
theorem hold_body (sv kv : Value) (name text : List UInt8) (n : Int) (fv : Value) (x : LetK) (w : World) (hx : x.text.length ≤ 9000) (ht : text.length ≤ 2000000) (hM : MaxL w) :
    Calls Tryz.prog 10 #[.agg #[.int .i64 4, .string ⟨name.toArray⟩, .string ⟨text.toArray⟩, .int .i64 n, sv, kv], .agg #[.int .i64 x.uid, fv, .int .i64 x.day, .string ⟨x.text.toArray⟩], .int .i64 x.which, .agg #[.int .i64 x.many, .int .i64 x.greatest]] w fun e w' => e = .returned (.bool (hasK (splitHd x.text).2 text)) ∧ Below w.heap.size w w' := by
  have hw := holdW_at w (.int .i64 4) (.string ⟨name.toArray⟩) (.string ⟨text.toArray⟩) (.int .i64 n) sv kv (.int .i64 x.uid) fv (.int .i64 x.day) (.string ⟨x.text.toArray⟩) (.int .i64 x.which) (.int .i64 x.many) (.int .i64 x.greatest)
  have cS := splitHd_any x.text _ (by omega) (MaxL.below hM hw.below)
  have cH := fun W hW => hasK_any (splitHd x.text).2 text W (by have := splitHd_len2 x.text; omega) (by omega) hW
  have HM := Lib.hid (MaxL.below hM hw.below)
  generalize hasK (splitHd x.text).2 text = r at *
  generalize (splitHd x.text).2 = B at *
  generalize (splitHd x.text).1 = A at *
  clear hM
  obtain ⟨k0, k1, k2, k3, k4, k5⟩ := six_cells' hw.k
  obtain ⟨l0, l1, l2, l3⟩ := four_cells hw.l
  have n0 := one_cell hw.n
  obtain ⟨m0, m1⟩ := two_cells hw.m
  have Y := Lib.hid hw.below
  have KK := Lib.hid hw.k
  clear hw
  go_enter Tryz.func10, Tryz.ntmps10
  go_upto_region 1 with fail
  generalize (((w.alloc (.cells #[.int .i64 4, .string ⟨name.toArray⟩, .string ⟨text.toArray⟩, .int .i64 n, sv, kv] 32)).alloc (.cells #[.int .i64 x.uid, fv, .int .i64 x.day, .string ⟨x.text.toArray⟩] 24)).alloc (.cells #[.int .i64 x.which] 3)).alloc (.cells #[.int .i64 x.many, .int .i64 x.greatest] 44) = w1 at *
  go_wp2_with (first
    | (go_at_call 26; go_loud (((with_reducible refine cS.mono ?_); rintro e w2 ⟨rfl, h⟩; have y := Y.out.trans (h.mono Y.out.size); obtain ⟨-, -, k2, -, -, -⟩ := six_cells' (below_same h KK.out); have cH1 := cH w2 (MaxL.below HM.out h))))
    | (go_at_call 25; go_loud (((with_reducible refine cH1.mono ?_); rintro e w3 ⟨rfl, h3⟩; have y3 := y.trans (h3.mono y.size)))))
  go_ret
  exact ⟨rfl, y3⟩
set_option maxRecDepth 100000 in
set_option maxHeartbeats 8000000 in
theorem hold_uids (kv : Value) (name text : List UInt8) (n : Int) (fv : Value) (x : LetK) (w : World) (set : List Rg) (sv : Value) (hs : RgRow w sv set) :
    Calls Tryz.prog 10 #[.agg #[.int .i64 11, .string ⟨name.toArray⟩, .string ⟨text.toArray⟩, .int .i64 n, sv, kv], .agg #[.int .i64 x.uid, fv, .int .i64 x.day, .string ⟨x.text.toArray⟩], .int .i64 x.which, .agg #[.int .i64 x.many, .int .i64 x.greatest]] w fun e w' => e = .returned (.bool (hasS set x.uid x.greatest)) ∧ Below w.heap.size w w' := by
  have hw := holdW_at w (.int .i64 11) (.string ⟨name.toArray⟩) (.string ⟨text.toArray⟩) (.int .i64 n) sv kv (.int .i64 x.uid) fv (.int .i64 x.day) (.string ⟨x.text.toArray⟩) (.int .i64 x.which) (.int .i64 x.many) (.int .i64 x.greatest)
  have cC := hasS_any sv set x.uid x.greatest _ (hs.below hw.below)
  generalize hasS set x.uid x.greatest = r at *
  clear hs
  obtain ⟨k0, k1, k2, k3, k4, k5⟩ := six_cells' hw.k
  obtain ⟨l0, l1, l2, l3⟩ := four_cells hw.l
  have n0 := one_cell hw.n
  obtain ⟨m0, m1⟩ := two_cells hw.m
  have Y := Lib.hid hw.below
  clear hw
  go_enter Tryz.func10, Tryz.ntmps10
  go_upto_region 1 with fail
  generalize (((w.alloc (.cells #[.int .i64 11, .string ⟨name.toArray⟩, .string ⟨text.toArray⟩, .int .i64 n, sv, kv] 32)).alloc (.cells #[.int .i64 x.uid, fv, .int .i64 x.day, .string ⟨x.text.toArray⟩] 24)).alloc (.cells #[.int .i64 x.which] 3)).alloc (.cells #[.int .i64 x.many, .int .i64 x.greatest] 44) = w1 at *
  go_wp2_with (go_at_call 27; go_loud (((with_reducible refine cC.mono ?_); rintro e w2 ⟨rfl, h⟩; have y := Y.out.trans (h.mono Y.out.size))))
  go_ret
  exact ⟨rfl, y⟩
set_option maxRecDepth 100000 in
set_option maxHeartbeats 8000000 in
theorem hold_numbers (kv : Value) (name text : List UInt8) (n : Int) (fv : Value) (x : LetK) (w : World) (set : List Rg) (sv : Value) (hs : RgRow w sv set) :
    Calls Tryz.prog 10 #[.agg #[.int .i64 12, .string ⟨name.toArray⟩, .string ⟨text.toArray⟩, .int .i64 n, sv, kv], .agg #[.int .i64 x.uid, fv, .int .i64 x.day, .string ⟨x.text.toArray⟩], .int .i64 x.which, .agg #[.int .i64 x.many, .int .i64 x.greatest]] w fun e w' => e = .returned (.bool (hasS set x.which x.many)) ∧ Below w.heap.size w w' := by
  have hw := holdW_at w (.int .i64 12) (.string ⟨name.toArray⟩) (.string ⟨text.toArray⟩) (.int .i64 n) sv kv (.int .i64 x.uid) fv (.int .i64 x.day) (.string ⟨x.text.toArray⟩) (.int .i64 x.which) (.int .i64 x.many) (.int .i64 x.greatest)
  have cC := hasS_any sv set x.which x.many _ (hs.below hw.below)
  generalize hasS set x.which x.many = r at *
  clear hs
  obtain ⟨k0, k1, k2, k3, k4, k5⟩ := six_cells' hw.k
  obtain ⟨l0, l1, l2, l3⟩ := four_cells hw.l
  have n0 := one_cell hw.n
  obtain ⟨m0, m1⟩ := two_cells hw.m
  have Y := Lib.hid hw.below
  clear hw
  go_enter Tryz.func10, Tryz.ntmps10
  go_upto_region 1 with fail
  generalize (((w.alloc (.cells #[.int .i64 12, .string ⟨name.toArray⟩, .string ⟨text.toArray⟩, .int .i64 n, sv, kv] 32)).alloc (.cells #[.int .i64 x.uid, fv, .int .i64 x.day, .string ⟨x.text.toArray⟩] 24)).alloc (.cells #[.int .i64 x.which] 3)).alloc (.cells #[.int .i64 x.many, .int .i64 x.greatest] 44) = w1 at *
  go_wp2_with (go_at_call 27; go_loud (((with_reducible refine cC.mono ?_); rintro e w2 ⟨rfl, h⟩; have y := Y.out.trans (h.mono Y.out.size))))
  go_ret
  exact ⟨rfl, y⟩
end Go.Proofs.YtcahhnjponeeeaaGreatDoor
namespace Go.Proofs.YtcahhnjponeeeaaGreatDoor
open Go.RowKit Go.Shelf Go.Sort
set_option linter.unusedSimpArgs false
set_option maxRecDepth 100000 in
set_option maxHeartbeats 8000000 in
theorem hold_or (sv : Value) (name text : List UInt8) (n : Int) (fv : Value) (x : LetK) (w : World)
    (keys : List KeyP) (ka : Option Addr) (kc : Nat) (vs : Nat → List Value) (hkl : keys.length ≤ 9223372036854775807) (h6 : ∀ (j : Nat) (t : KeyP), keys[j]? = some t → ∃ a b c d e f, vs j = [a, b, c, d, e, f])
    (hcell : ∀ (j : Nat) (t : KeyP), keys[j]? = some t → ∃ b off, ka = some ⟨b, off, none⟩ ∧ b < w.heap.size ∧ ∀ (i : Nat) (u : Value), (vs j)[i]? = some u → w.cell? ⟨b, off + j * 6 + i, none⟩ = some u)
    (ih : ∀ (j : Nat) (t : KeyP), keys[j]? = some t → ∀ W, Below w.heap.size w W → Calls Tryz.prog 10 #[.agg (vs j).toArray, .agg #[.int .i64 x.uid, fv, .int .i64 x.day, .string ⟨x.text.toArray⟩], .int .i64 x.which, .agg #[.int .i64 x.many, .int .i64 x.greatest]] W fun e w' => e = .returned (.bool (holdsK x t)) ∧ Below W.heap.size W w') :
    Calls Tryz.prog 10 #[.agg #[.int .i64 14, .string ⟨name.toArray⟩, .string ⟨text.toArray⟩, .int .i64 n, sv, .slice ka keys.length kc], .agg #[.int .i64 x.uid, fv, .int .i64 x.day, .string ⟨x.text.toArray⟩], .int .i64 x.which, .agg #[.int .i64 x.many, .int .i64 x.greatest]] w fun e w' => e = .returned (.bool (keys.any fun t => holdsK x t)) ∧ Below w.heap.size w w' := by
  have hw := holdW_at w (.int .i64 14) (.string ⟨name.toArray⟩) (.string ⟨text.toArray⟩) (.int .i64 n) sv (.slice ka keys.length kc) (.int .i64 x.uid) fv (.int .i64 x.day) (.string ⟨x.text.toArray⟩) (.int .i64 x.which) (.int .i64 x.many) (.int .i64 x.greatest)
  have cC := keysC2 x fv w keys ka kc vs hkl h6 hcell ih _ hw
  generalize (keys.any fun t => holdsK x t) = r at *
  clear ih hcell h6
  obtain ⟨k0, k1, k2, k3, k4, k5⟩ := six_cells' hw.k
  obtain ⟨l0, l1, l2, l3⟩ := four_cells hw.l
  have n0 := one_cell hw.n
  obtain ⟨m0, m1⟩ := two_cells hw.m
  have Y := Lib.hid hw.below
  clear hw
  go_enter Tryz.func10, Tryz.ntmps10
  go_upto_region 1 with fail
  generalize (((w.alloc (.cells #[.int .i64 14, .string ⟨name.toArray⟩, .string ⟨text.toArray⟩, .int .i64 n, sv, .slice ka keys.length kc] 32)).alloc (.cells #[.int .i64 x.uid, fv, .int .i64 x.day, .string ⟨x.text.toArray⟩] 24)).alloc (.cells #[.int .i64 x.which] 3)).alloc (.cells #[.int .i64 x.many, .int .i64 x.greatest] 44) = w1 at *
  go_wp2_with (go_at_call 28; go_loud (((with_reducible refine cC.mono ?_); rintro e w2 ⟨rfl, h⟩; have y := Y.out.trans (h.mono Y.out.size))))
  go_ret
  exact ⟨rfl, y⟩
set_option maxRecDepth 100000 in
set_option maxHeartbeats 8000000 in
theorem hold_and (code : Int) (hco : ∀ i ∈ [(1 : Int), 2, 3, 4, 5, 6, 7, 8, 9, 10, 11, 12, 13, 14], code ≠ i) (sv : Value) (name text : List UInt8) (n : Int) (fv : Value) (x : LetK) (w : World)
    (keys : List KeyP) (ka : Option Addr) (kc : Nat) (vs : Nat → List Value) (hkl : keys.length ≤ 9223372036854775807) (h6 : ∀ (j : Nat) (t : KeyP), keys[j]? = some t → ∃ a b c d e f, vs j = [a, b, c, d, e, f])
    (hcell : ∀ (j : Nat) (t : KeyP), keys[j]? = some t → ∃ b off, ka = some ⟨b, off, none⟩ ∧ b < w.heap.size ∧ ∀ (i : Nat) (u : Value), (vs j)[i]? = some u → w.cell? ⟨b, off + j * 6 + i, none⟩ = some u)
    (ih : ∀ (j : Nat) (t : KeyP), keys[j]? = some t → ∀ W, Below w.heap.size w W → Calls Tryz.prog 10 #[.agg (vs j).toArray, .agg #[.int .i64 x.uid, fv, .int .i64 x.day, .string ⟨x.text.toArray⟩], .int .i64 x.which, .agg #[.int .i64 x.many, .int .i64 x.greatest]] W fun e w' => e = .returned (.bool (holdsK x t)) ∧ Below W.heap.size W w') :
    Calls Tryz.prog 10 #[.agg #[.int .i64 code, .string ⟨name.toArray⟩, .string ⟨text.toArray⟩, .int .i64 n, sv, .slice ka keys.length kc], .agg #[.int .i64 x.uid, fv, .int .i64 x.day, .string ⟨x.text.toArray⟩], .int .i64 x.which, .agg #[.int .i64 x.many, .int .i64 x.greatest]] w fun e w' => e = .returned (.bool (!(keys.any fun t => !holdsK x t))) ∧ Below w.heap.size w w' := by
  have hw := holdW_at w (.int .i64 code) (.string ⟨name.toArray⟩) (.string ⟨text.toArray⟩) (.int .i64 n) sv (.slice ka keys.length kc) (.int .i64 x.uid) fv (.int .i64 x.day) (.string ⟨x.text.toArray⟩) (.int .i64 x.which) (.int .i64 x.many) (.int .i64 x.greatest)
  have cC := keysC3 x fv w keys ka kc vs hkl h6 hcell ih _ hw
  generalize (keys.any fun t => !holdsK x t) = r at *
  clear ih hcell h6
  have e1 : decide (code = 1) = false := decide_eq_false (hco 1 (by simp))
  have b1 : (code == 1) = false := by rw [beq_eq_false_iff_ne]; exact hco 1 (by simp)
  have e2 : decide (code = 2) = false := decide_eq_false (hco 2 (by simp))
  have b2 : (code == 2) = false := by rw [beq_eq_false_iff_ne]; exact hco 2 (by simp)
  have e3 : decide (code = 3) = false := decide_eq_false (hco 3 (by simp))
  have b3 : (code == 3) = false := by rw [beq_eq_false_iff_ne]; exact hco 3 (by simp)
  have e4 : decide (code = 4) = false := decide_eq_false (hco 4 (by simp))
  have b4 : (code == 4) = false := by rw [beq_eq_false_iff_ne]; exact hco 4 (by simp)
  have e5 : decide (code = 5) = false := decide_eq_false (hco 5 (by simp))
  have b5 : (code == 5) = false := by rw [beq_eq_false_iff_ne]; exact hco 5 (by simp)
  have e6 : decide (code = 6) = false := decide_eq_false (hco 6 (by simp))
  have b6 : (code == 6) = false := by rw [beq_eq_false_iff_ne]; exact hco 6 (by simp)
  have e7 : decide (code = 7) = false := decide_eq_false (hco 7 (by simp))
  have b7 : (code == 7) = false := by rw [beq_eq_false_iff_ne]; exact hco 7 (by simp)
  have e8 : decide (code = 8) = false := decide_eq_false (hco 8 (by simp))
  have b8 : (code == 8) = false := by rw [beq_eq_false_iff_ne]; exact hco 8 (by simp)
  have e9 : decide (code = 9) = false := decide_eq_false (hco 9 (by simp))
  have b9 : (code == 9) = false := by rw [beq_eq_false_iff_ne]; exact hco 9 (by simp)
  have e10 : decide (code = 10) = false := decide_eq_false (hco 10 (by simp))
  have b10 : (code == 10) = false := by rw [beq_eq_false_iff_ne]; exact hco 10 (by simp)
  have e11 : decide (code = 11) = false := decide_eq_false (hco 11 (by simp))
  have b11 : (code == 11) = false := by rw [beq_eq_false_iff_ne]; exact hco 11 (by simp)
  have e12 : decide (code = 12) = false := decide_eq_false (hco 12 (by simp))
  have b12 : (code == 12) = false := by rw [beq_eq_false_iff_ne]; exact hco 12 (by simp)
  have e13 : decide (code = 13) = false := decide_eq_false (hco 13 (by simp))
  have b13 : (code == 13) = false := by rw [beq_eq_false_iff_ne]; exact hco 13 (by simp)
  have e14 : decide (code = 14) = false := decide_eq_false (hco 14 (by simp))
  have b14 : (code == 14) = false := by rw [beq_eq_false_iff_ne]; exact hco 14 (by simp)
  clear hco
  obtain ⟨k0, k1, k2, k3, k4, k5⟩ := six_cells' hw.k
  obtain ⟨l0, l1, l2, l3⟩ := four_cells hw.l
  have n0 := one_cell hw.n
  obtain ⟨m0, m1⟩ := two_cells hw.m
  have Y := Lib.hid hw.below
  clear hw
  go_enter Tryz.func10, Tryz.ntmps10
  go_upto_region 1 with fail
  generalize (((w.alloc (.cells #[.int .i64 code, .string ⟨name.toArray⟩, .string ⟨text.toArray⟩, .int .i64 n, sv, .slice ka keys.length kc] 32)).alloc (.cells #[.int .i64 x.uid, fv, .int .i64 x.day, .string ⟨x.text.toArray⟩] 24)).alloc (.cells #[.int .i64 x.which] 3)).alloc (.cells #[.int .i64 x.many, .int .i64 x.greatest] 44) = w1 at *
  go_wp2_with (go_at_call 28; go_loud (((with_reducible refine cC.mono ?_); rintro e w2 ⟨rfl, h⟩; have y := Y.out.trans (h.mono Y.out.size))))
  go_ret
  exact ⟨rfl, y⟩
end Go.Proofs.YtcahhnjponeeeaaGreatDoor
namespace Go.Proofs.YtcahhnjponeeeaaGreatDoor
open Go.RowKit Go.Shelf Go.Sort
set_option linter.unusedSimpArgs false
set_option maxRecDepth 100000 in
set_option maxHeartbeats 8000000 in
theorem hold_not (sv : Value) (name text : List UInt8) (n : Int) (fv : Value) (x : LetK) (w : World) (g off m kc : Nat) (hm : 0 < m) (a b c d e f : Value) (hg : g < w.heap.size) (hc : w.cell? ⟨g, off, none⟩ = some a ∧ w.cell? ⟨g, off + 1, none⟩ = some b ∧ w.cell? ⟨g, off + 2, none⟩ = some c ∧ w.cell? ⟨g, off + 3, none⟩ = some d ∧ w.cell? ⟨g, off + 4, none⟩ = some e ∧ w.cell? ⟨g, off + 5, none⟩ = some f) (r : Bool)
    (cH : ∀ W, Below w.heap.size w W → Calls Tryz.prog 10 #[.agg #[a, b, c, d, e, f], .agg #[.int .i64 x.uid, fv, .int .i64 x.day, .string ⟨x.text.toArray⟩], .int .i64 x.which, .agg #[.int .i64 x.many, .int .i64 x.greatest]] W fun e w' => e = .returned (.bool r) ∧ Below W.heap.size W w') :
    Calls Tryz.prog 10 #[.agg #[.int .i64 13, .string ⟨name.toArray⟩, .string ⟨text.toArray⟩, .int .i64 n, sv, .slice (some ⟨g, off, none⟩) m kc], .agg #[.int .i64 x.uid, fv, .int .i64 x.day, .string ⟨x.text.toArray⟩], .int .i64 x.which, .agg #[.int .i64 x.many, .int .i64 x.greatest]] w fun e w' => e = .returned (.bool (!r)) ∧ Below w.heap.size w w' := by
  have hw := holdW_at w (.int .i64 13) (.string ⟨name.toArray⟩) (.string ⟨text.toArray⟩) (.int .i64 n) sv (.slice (some ⟨g, off, none⟩) m kc) (.int .i64 x.uid) fv (.int .i64 x.day) (.string ⟨x.text.toArray⟩) (.int .i64 x.which) (.int .i64 x.many) (.int .i64 x.greatest)
  obtain ⟨c0, c1, c2, c3, c4, c5⟩ := hc
  have d0 := (hw.below.cell (p := ⟨g, off, none⟩) hg).trans c0
  have d1 := (hw.below.cell (p := ⟨g, off + 1, none⟩) hg).trans c1
  have d2 := (hw.below.cell (p := ⟨g, off + 2, none⟩) hg).trans c2
  have d3 := (hw.below.cell (p := ⟨g, off + 3, none⟩) hg).trans c3
  have d4 := (hw.below.cell (p := ⟨g, off + 4, none⟩) hg).trans c4
  have d5 := (hw.below.cell (p := ⟨g, off + 5, none⟩) hg).trans c5
  have CH := Lib.hid cH
  have hmz : (0 : Int) < (m : Int) := by omega
  clear c0 c1 c2 c3 c4 c5 cH
  obtain ⟨k0, k1, k2, k3, k4, k5⟩ := six_cells' hw.k
  obtain ⟨l0, l1, l2, l3⟩ := four_cells hw.l
  have n0 := one_cell hw.n
  obtain ⟨m0, m1⟩ := two_cells hw.m
  have Y := Lib.hid hw.below
  clear hw
  go_enter Tryz.func10, Tryz.ntmps10
  go_upto_region 1 with fail
  generalize (((w.alloc (.cells #[.int .i64 13, .string ⟨name.toArray⟩, .string ⟨text.toArray⟩, .int .i64 n, sv, .slice (some ⟨g, off, none⟩) m kc] 32)).alloc (.cells #[.int .i64 x.uid, fv, .int .i64 x.day, .string ⟨x.text.toArray⟩] 24)).alloc (.cells #[.int .i64 x.which] 3)).alloc (.cells #[.int .i64 x.many, .int .i64 x.greatest] 44) = w1 at *
  go_upto_region 29 with fail
  have yd := Y.out.drew
  have cH1 := CH.out _ yd
  go_still_tail 7, (by kernel_rfl)
  change wpList _ _ _ _ _ w1.drew
  go_wp2_with (go_at_call 10; go_loud (((with_reducible refine cH1.mono ?_); rintro e w2 ⟨rfl, h⟩; have y := yd.trans (h.mono yd.size))))
  go_ret
  exact ⟨rfl, y⟩
end Go.Proofs.YtcahhnjponeeeaaGreatDoor
namespace Go.Proofs.YtcahhnjponeeeaaGreatDoor
open Go.RowKit Go.Shelf Go.Sort
set_option linter.unusedSimpArgs false
set_option maxRecDepth 100000 in
set_option maxHeartbeats 8000000 in
theorem hold_head_bad (sv kv : Value) (name text : List UInt8) (n : Int) (fv : Value) (x : LetK) (w : World) (E : Nat × Nat) (hx : x.text.length ≤ 9000) (hM : MaxL w) (hF : fieldsL x.text = .inl E) :
    Calls Tryz.prog 10 #[.agg #[.int .i64 3, .string ⟨name.toArray⟩, .string ⟨text.toArray⟩, .int .i64 n, sv, kv], .agg #[.int .i64 x.uid, fv, .int .i64 x.day, .string ⟨x.text.toArray⟩], .int .i64 x.which, .agg #[.int .i64 x.many, .int .i64 x.greatest]] w fun e w' => e = .returned (.bool (false)) ∧ Below w.heap.size w w' := by
  have hw := holdW_at w (.int .i64 3) (.string ⟨name.toArray⟩) (.string ⟨text.toArray⟩) (.int .i64 n) sv kv (.int .i64 x.uid) fv (.int .i64 x.day) (.string ⟨x.text.toArray⟩) (.int .i64 x.which) (.int .i64 x.many) (.int .i64 x.greatest)
  have cF := fields_bad hF _ hx (MaxL.below hM hw.below)
  clear hM hF
  obtain ⟨k0, k1, k2, k3, k4, k5⟩ := six_cells' hw.k
  obtain ⟨l0, l1, l2, l3⟩ := four_cells hw.l
  have n0 := one_cell hw.n
  obtain ⟨m0, m1⟩ := two_cells hw.m
  have Y := Lib.hid hw.below
  clear hw
  go_enter Tryz.func10, Tryz.ntmps10
  go_upto_region 1 with fail
  generalize (((w.alloc (.cells #[.int .i64 3, .string ⟨name.toArray⟩, .string ⟨text.toArray⟩, .int .i64 n, sv, kv] 32)).alloc (.cells #[.int .i64 x.uid, fv, .int .i64 x.day, .string ⟨x.text.toArray⟩] 24)).alloc (.cells #[.int .i64 x.which] 3)).alloc (.cells #[.int .i64 x.many, .int .i64 x.greatest] 44) = w1 at *
  go_wp2_with (go_at_call 21; go_loud (((with_reducible refine cF.mono ?_); rintro e w2 ⟨g, rfl, h⟩; have y := Y.out.trans (h.mono Y.out.size))))
  go_ret
  exact ⟨rfl, y⟩
end Go.Proofs.YtcahhnjponeeeaaGreatDoor
namespace Go.Proofs.YtcahhnjponeeeaaGreatDoor
open Go.RowKit Go.Shelf Go.Sort
set_option linter.unusedSimpArgs false
set_option maxRecDepth 100000 in
set_option maxHeartbeats 8000000 in
theorem hold_head_good (sv kv : Value) (name text : List UInt8) (n : Int) (fv : Value) (x : LetK) (w : World) (l : List Fld) (hx : x.text.length ≤ 9000) (ht : text.length ≤ 2000000) (hM : MaxL w) (hF : fieldsL x.text = .inr l) :
    Calls Tryz.prog 10 #[.agg #[.int .i64 3, .string ⟨name.toArray⟩, .string ⟨text.toArray⟩, .int .i64 n, sv, kv], .agg #[.int .i64 x.uid, fv, .int .i64 x.day, .string ⟨x.text.toArray⟩], .int .i64 x.which, .agg #[.int .i64 x.many, .int .i64 x.greatest]] w fun e w' => e = .returned (.bool (l.any fun f => smallL f.1 == name && hasK f.2 text)) ∧ Below w.heap.size w w' := by
  have hw := holdW_at w (.int .i64 3) (.string ⟨name.toArray⟩) (.string ⟨text.toArray⟩) (.int .i64 n) sv kv (.int .i64 x.uid) fv (.int .i64 x.day) (.string ⟨x.text.toArray⟩) (.int .i64 x.which) (.int .i64 x.many) (.int .i64 x.greatest)
  have cF := fields_good hF _ hx (MaxL.below hM hw.below)
  have HM := Lib.hid (MaxL.below hM hw.below)
  have KK := Lib.hid hw.k
  clear hM hF
  obtain ⟨k0, k1, k2, k3, k4, k5⟩ := six_cells' hw.k
  obtain ⟨l0, l1, l2, l3⟩ := four_cells hw.l
  have n0 := one_cell hw.n
  obtain ⟨m0, m1⟩ := two_cells hw.m
  have Y := Lib.hid hw.below
  clear hw
  go_enter Tryz.func10, Tryz.ntmps10
  go_upto_region 1 with fail
  generalize (((w.alloc (.cells #[.int .i64 3, .string ⟨name.toArray⟩, .string ⟨text.toArray⟩, .int .i64 n, sv, kv] 32)).alloc (.cells #[.int .i64 x.uid, fv, .int .i64 x.day, .string ⟨x.text.toArray⟩] 24)).alloc (.cells #[.int .i64 x.which] 3)).alloc (.cells #[.int .i64 x.many, .int .i64 x.greatest] 44) = w1 at *
  go_wp2_with (first
    | (go_at_call 21; go_loud (((with_reducible refine cF.mono ?_); rintro e w2 ⟨ao, cap, rfl, h, hL, hcell⟩; have y := Y.out.trans (h.mono Y.out.size); have cC := contF_any ao cap l (fun f => smallL f.1 == name && hasK f.2 text) (.pointer (some ⟨w.heap.size, 0, none⟩)) w2 (by have := hL.1; omega) hcell (fun j f W hj hb => hfield_any f w.heap.size name text _ _ _ _ _ W (below_same (h.trans (hb.mono h.size)) KK.out) (hL.2 f (List.mem_of_getElem? hj)).1 (hL.2 f (List.mem_of_getElem? hj)).2 ht (MaxL.below HM.out (h.trans (hb.mono h.size)))); clear hcell hL)))
    | (go_at_call 22; go_loud (((with_reducible refine cC.mono ?_); rintro e w3 ⟨rfl, h3⟩; have y3 := y.trans (h3.mono y.size)))))
  go_ret
  exact ⟨rfl, y3⟩
end Go.Proofs.YtcahhnjponeeeaaGreatDoor
namespace Go.Proofs.YtcahhnjponeeeaaGreatDoor
open Go.RowKit Go.Shelf Go.Sort
set_option linter.unusedSimpArgs false
theorem rg_same {W : World} {ok : Nat → Prop} {sa : Option Addr} {sc : Nat} {set : List Rg} (h2 : set.length ≤ sc) (h3 : sc ≤ 9223372036854775807) (h4 : sa = none → sc = 0)
    (h5 : ∀ (j : Nat) (r : Rg), set[j]? = some r → ∃ g off, sa = some ⟨g, off, none⟩ ∧ ok g ∧ g < W.heap.size ∧ W.cell? ⟨g, off + j * 2, none⟩ = some (.int .i64 r.1) ∧ W.cell? ⟨g, off + j * 2 + 1, none⟩ = some (.int .i64 r.2)) : RgRow W (.slice sa set.length sc) set := by
  refine ⟨sa, sc, rfl, h2, ⟨h3, h4⟩, fun j r hj => ?_⟩
  obtain ⟨g, off, e, -, hl, c0, c1⟩ := h5 j r hj
  exact ⟨g, off, e, hl, c0, c1⟩
/-- Holds answers as its plain function does -/
theorem holds_any (x : LetK) (fv : Value) (hl : x.flags.length ≤ 1000000) (hx : x.text.length ≤ 9000) {W0 : World} {ok : Nat → Prop} {cs : List Value} {k : KeyP} (h : KeyC W0 ok cs k) : ∀ w, Below W0.heap.size W0 w → SRow w fv x.flags → MaxL w →
    Calls Tryz.prog 10 #[.agg cs.toArray, .agg #[.int .i64 x.uid, fv, .int .i64 x.day, .string ⟨x.text.toArray⟩], .int .i64 x.which, .agg #[.int .i64 x.many, .int .i64 x.greatest]] w fun e w' => e = .returned (.bool (holdsK x k)) ∧ Below w.heap.size w w' := by
  induction h with
  | mk code name text n set keys sa ka sc kc vs h1 h2 h3 h4 h5 h6 h7 h8 h9 hsub ih =>
    intro w hb hf hM
    have hset : RgRow w (.slice sa set.length sc) set := (rg_same h2 h3 h4 h5).below hb
    have h6' : ∀ (j : Nat) (t : KeyP), keys[j]? = some t → ∃ a b c d e f, vs j = [a, b, c, d, e, f] := fun j t hj => by
      obtain ⟨_, _, _, _, _, _, _, _, _, _, e⟩ := (hsub j t hj).six
      exact ⟨_, _, _, _, _, _, e⟩
    have hcell : ∀ (j : Nat) (t : KeyP), keys[j]? = some t → ∃ b off, ka = some ⟨b, off, none⟩ ∧ b < w.heap.size ∧ ∀ (i : Nat) (u : Value), (vs j)[i]? = some u → w.cell? ⟨b, off + j * 6 + i, none⟩ = some u := fun j t hj => by
      obtain ⟨g, off, e, -, hg, hc⟩ := h9 j t hj
      exact ⟨g, off, e, Nat.lt_of_lt_of_le hg hb.size, fun i u hu => (hb.cell (p := ⟨g, off + j * 6 + i, none⟩) hg).trans (hc i u hu)⟩
    have ihw : ∀ (j : Nat) (t : KeyP), keys[j]? = some t → ∀ W, Below w.heap.size w W → Calls Tryz.prog 10 #[.agg (vs j).toArray, .agg #[.int .i64 x.uid, fv, .int .i64 x.day, .string ⟨x.text.toArray⟩], .int .i64 x.which, .agg #[.int .i64 x.many, .int .i64 x.greatest]] W fun e w' => e = .returned (.bool (holdsK x t)) ∧ Below W.heap.size W w' :=
      fun j t hj W hW => ih j t hj W (hb.trans (hW.mono hb.size)) (hf.below hW) (MaxL.below hM hW)
    have hkl : keys.length ≤ 9223372036854775807 := Nat.le_trans h7 h8
    rw [holdsK]
    by_cases c1 : code = 1
    · subst c1; exact hold_all _ _ name text n fv x w
    rw [if_neg c1]
    by_cases c2 : code = 2
    · subst c2; exact hold_flag _ _ name text n fv x w hf hl
    rw [if_neg c2]
    by_cases c3 : code = 3
    · subst c3
      rw [if_pos rfl]
      unfold headIs
      cases hF : fieldsL x.text with
      | inl E => exact hold_head_bad _ _ name text n fv x w E hx hM hF
      | inr l => exact hold_head_good _ _ name text n fv x w l hx h1 hM hF
    rw [if_neg c3]
    by_cases c4 : code = 4
    · subst c4; exact hold_body _ _ name text n fv x w hx h1 hM
    rw [if_neg c4]
    by_cases c5 : code = 5
    · subst c5; exact hold_text _ _ name text n fv x w hx h1 hM
    rw [if_neg c5]
    by_cases c6 : code = 6
    · subst c6; exact hold_larger _ _ name text n fv x w
    rw [if_neg c6]
    by_cases c7 : code = 7
    · subst c7; exact hold_smaller _ _ name text n fv x w
    rw [if_neg c7]
    by_cases c8 : code = 8
    · subst c8; exact hold_before _ _ name text n fv x w
    rw [if_neg c8]
    by_cases c9 : code = 9
    · subst c9; exact hold_on _ _ name text n fv x w
    rw [if_neg c9]
    by_cases c10 : code = 10
    · subst c10; exact hold_since _ _ name text n fv x w
    rw [if_neg c10]
    by_cases c11 : code = 11
    · subst c11; exact hold_uids _ name text n fv x w set _ hset
    rw [if_neg c11]
    by_cases c12 : code = 12
    · subst c12; exact hold_numbers _ name text n fv x w set _ hset
    rw [if_neg c12]
    by_cases c13 : code = 13
    · subst c13
      rw [if_pos rfl]
      cases keys with
      | nil => exact absurd rfl (h6 rfl)
      | cons t r =>
        obtain ⟨a, b, c, d, e, f, hv⟩ := h6' 0 t rfl
        obtain ⟨g, off, rfl, hg, hc⟩ := hcell 0 t rfl
        have hi := ihw 0 t rfl
        rw [hv] at hi hc
        rw [holdsOne]
        exact hold_not _ name text n fv x w g off (t :: r).length kc (by simp) a b c d e f hg ⟨by simpa using hc 0 _ rfl, by simpa using hc 1 _ rfl, by simpa using hc 2 _ rfl, by simpa using hc 3 _ rfl, by simpa using hc 4 _ rfl, by simpa using hc 5 _ rfl⟩ (holdsK x t) hi
    rw [if_neg c13]
    by_cases c14 : code = 14
    · subst c14
      rw [if_pos rfl, holdsAny_any]
      exact hold_or _ name text n fv x w keys ka kc vs hkl h6' hcell ihw
    rw [if_neg c14, holdsAll_all]
    refine hold_and code (fun i hi => ?_) _ name text n fv x w keys ka kc vs hkl h6' hcell ihw
    simp only [List.mem_cons, List.not_mem_nil, or_false] at hi
    rcases hi with rfl | rfl | rfl | rfl | rfl | rfl | rfl | rfl | rfl | rfl | rfl | rfl | rfl | rfl <;> assumption
end Go.Proofs.YtcahhnjponeeeaaGreatDoor
namespace Go.Proofs.YtcahhnjponeeeaaGreatDoor
open Go.RowKit Go.Shelf Go.Sort
set_option linter.unusedSimpArgs false
/-- the cells of some words, each with the value of its list -/
def wdCells (l : List (Wd × Value)) : List Value := l.flatMap fun x => [.int .i64 x.1.kind, .string ⟨x.1.text.toArray⟩, x.2]
theorem wdCells_at : ∀ (l : List (Wd × Value)) (j : Nat) (x : Wd × Value), l[j]? = some x → (wdCells l)[j * 3]? = some (.int .i64 x.1.kind) ∧ (wdCells l)[j * 3 + 1]? = some (.string ⟨x.1.text.toArray⟩) ∧ (wdCells l)[j * 3 + 2]? = some x.2
  | [], j, x, h => by simp at h
  | y :: l, 0, x, h => by
    simp at h; subst h
    exact ⟨rfl, rfl, rfl⟩
  | y :: l, j + 1, x, h => by
    have ih := wdCells_at l j x (by simpa using h)
    have e : wdCells (y :: l) = [.int .i64 y.1.kind, .string ⟨y.1.text.toArray⟩, y.2] ++ wdCells l := rfl
    rw [e, show (j + 1) * 3 = j * 3 + 3 by omega]
    refine ⟨?_, ?_, ?_⟩
    · rw [List.getElem?_append_right (by simp)]; exact ih.1
    · rw [List.getElem?_append_right (by simp)]; simpa using ih.2.1
    · rw [List.getElem?_append_right (by simp)]; simpa using ih.2.2
theorem ReadsK.more {W : World} {B B' : Nat} {v : Value} {l : List Wd} (h : ReadsK W B v l) (hB : B ≤ B') : ReadsK W B' v l := by
  induction h with
  | mk a cap l vs h1 h2 h3 h4 _ ih =>
    refine .mk a cap l vs h1 h2 (fun j t hj => ?_) h4 ih
    obtain ⟨g, off, e, hg, c⟩ := h3 j t hj
    exact ⟨g, off, e, Nat.lt_of_lt_of_le hg hB, c⟩
theorem parse_bad {l : List Wd} {E : Nat} (hp : parseK l = .error E) (v : Value) (w : World) (h : ReadsK w w.heap.size v l) (hG : SrG w) : Calls Tryz.prog 7 #[v] w fun e w' => e = .returned (.tuple #[.agg zero6, .iface 33 (.int .i64 (E : Int))]) ∧ Below w.heap.size w w' := by
  refine (parseK_any v l w h hG).mono fun e w' h => ?_
  unfold ParsedK at h
  rw [hp] at h
  exact h
theorem parse_good {l : List Wd} {k : KeyP} (hp : parseK l = .ok k) (v : Value) (w : World) (h : ReadsK w w.heap.size v l) (hG : SrG w) : Calls Tryz.prog 7 #[v] w fun e w' => ∃ (code : Int) (name text : List UInt8) (n : Int) (set : List Rg) (keys : List KeyP) (sa ka : Option Addr) (sc kc : Nat),
    e = .returned (.tuple #[.agg #[.int .i64 code, .string ⟨name.toArray⟩, .string ⟨text.toArray⟩, .int .i64 n, .slice sa set.length sc, .slice ka keys.length kc], .nilIface]) ∧ Hid (KeyC w' (fun j => w.heap.size ≤ j) [.int .i64 code, .string ⟨name.toArray⟩, .string ⟨text.toArray⟩, .int .i64 n, .slice sa set.length sc, .slice ka keys.length kc] k) ∧ Below w.heap.size w w' := by
  refine (parseK_any v l w h hG).mono fun e w' h => ?_
  unfold ParsedK at h
  rw [hp] at h
  obtain ⟨cs, h1, h2, h3⟩ := h
  obtain ⟨code, name, text, n, set, keys, sa, ka, sc, kc, rfl⟩ := h2.six
  exact ⟨code, name, text, n, set, keys, sa, ka, sc, kc, h1, Lib.hid h2, h3⟩
theorem SrG.maxL {w : World} (h : SrG w) : MaxL w := h.max
end Go.Proofs.YtcahhnjponeeeaaGreatDoor
