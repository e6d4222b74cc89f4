/- The walk over search.Holds: whether a letter is what a key asks for. Conditions: bytealg.MaxLen lies. The walk over search.Holds: whether a letter is what a key asks for. Conditions: bytealg.MaxLen lies. The walk over search.Holds: whether a letter is what a key asks for. Conditions: bytealg.MaxLen lies. The walk over search.Holds: whether a letter is what a key asks for. Conditions: bytealg.MaxLen lies. The walk over search.Holds: whether a letter is what a key asks for. Conditions: bytealg.MaxLen lies. -/
import Derived.Test.YtmhidmkomljjjaaGreatDoorSrchQ
import Derived.Deep.DeepCutAuto
namespace Go.Proofs.YtmhidmkomljjjaaGreatDoor
open Go.RowKit Go.Shelf Go.Sort
set_option linter.unusedSimpArgs false

set_option maxRecDepth 100000 in
set_option maxHeartbeats 8000000 in
theorem hold_or (sv : Value) (name text : List UInt8) (n : Int) (fv : Value) (x : LetK) (w : World)
    (keys : List KeyP) (ka : Option Addr) (kc : Nat) (vs : Nat → List Value) (hkl : keys.length ≤ 9223372036854775807) (h6 : ∀ (j : Nat) (t : KeyP), keys[j]? = some t → ∃ a b c d e f, vs j = [a, b, c, d, e, f])
    (hcell : ∀ (j : Nat) (t : KeyP), keys[j]? = some t → ∃ b off, ka = some ⟨b, off, none⟩ ∧ b < w.heap.size ∧ ∀ (i : Nat) (u : Value), (vs j)[i]? = some u → w.cell? ⟨b, off + j * 6 + i, none⟩ = some u)
    (ih : ∀ (j : Nat) (t : KeyP), keys[j]? = some t → ∀ W, Below w.heap.size w W → Calls Tryz.prog 8 #[.agg (vs j).toArray, .agg #[.int .i64 x.uid, fv, .int .i64 x.day, .string ⟨x.text.toArray⟩], .int .i64 x.which, .agg #[.int .i64 x.many, .int .i64 x.greatest]] W fun e w' => e = .returned (.bool (holdsK x t)) ∧ Below W.heap.size W w') :
    Calls Tryz.prog 8 #[.agg #[.int .i64 14, .string ⟨name.toArray⟩, .string ⟨text.toArray⟩, .int .i64 n, sv, .slice ka keys.length kc], .agg #[.int .i64 x.uid, fv, .int .i64 x.day, .string ⟨x.text.toArray⟩], .int .i64 x.which, .agg #[.int .i64 x.many, .int .i64 x.greatest]] w fun e w' => e = .returned (.bool (keys.any fun t => holdsK x t)) ∧ Below w.heap.size w w' := by
  have hw := holdW_at w (.int .i64 14) (.string ⟨name.toArray⟩) (.string ⟨text.toArray⟩) (.int .i64 n) sv (.slice ka keys.length kc) (.int .i64 x.uid) fv (.int .i64 x.day) (.string ⟨x.text.toArray⟩) (.int .i64 x.which) (.int .i64 x.many) (.int .i64 x.greatest)
  have cC := keysC2 x fv w keys ka kc vs hkl h6 hcell ih _ hw
  generalize (keys.any fun t => holdsK x t) = r at *
  clear ih hcell h6
  obtain ⟨k0, k1, k2, k3, k4, k5⟩ := six_cells' hw.k
  obtain ⟨l0, l1, l2, l3⟩ := four_cells hw.l
  have n0 := one_cell hw.n
  obtain ⟨m0, m1⟩ := two_cells hw.m
  have Y := Lib.hid hw.below
  clear hw
  go_enter Tryz.func8, Tryz.ntmps8
  go_upto_region 1 with fail
  generalize (((w.alloc (.cells #[.int .i64 14, .string ⟨name.toArray⟩, .string ⟨text.toArray⟩, .int .i64 n, sv, .slice ka keys.length kc] 33)).alloc (.cells #[.int .i64 x.uid, fv, .int .i64 x.day, .string ⟨x.text.toArray⟩] 25)).alloc (.cells #[.int .i64 x.which] 3)).alloc (.cells #[.int .i64 x.many, .int .i64 x.greatest] 29) = w1 at *
  go_wp2_with (go_at_call 21; go_loud (((with_reducible refine cC.mono ?_); rintro e w2 ⟨rfl, h⟩; have y := Y.out.trans (h.mono Y.out.size))))
  go_ret
  exact ⟨rfl, y⟩

set_option maxRecDepth 100000 in
set_option maxHeartbeats 8000000 in
theorem hold_and (code : Int) (hco : ∀ i ∈ [(1 : Int), 2, 3, 4, 5, 6, 7, 8, 9, 10, 11, 12, 13, 14], code ≠ i) (sv : Value) (name text : List UInt8) (n : Int) (fv : Value) (x : LetK) (w : World)
    (keys : List KeyP) (ka : Option Addr) (kc : Nat) (vs : Nat → List Value) (hkl : keys.length ≤ 9223372036854775807) (h6 : ∀ (j : Nat) (t : KeyP), keys[j]? = some t → ∃ a b c d e f, vs j = [a, b, c, d, e, f])
    (hcell : ∀ (j : Nat) (t : KeyP), keys[j]? = some t → ∃ b off, ka = some ⟨b, off, none⟩ ∧ b < w.heap.size ∧ ∀ (i : Nat) (u : Value), (vs j)[i]? = some u → w.cell? ⟨b, off + j * 6 + i, none⟩ = some u)
    (ih : ∀ (j : Nat) (t : KeyP), keys[j]? = some t → ∀ W, Below w.heap.size w W → Calls Tryz.prog 8 #[.agg (vs j).toArray, .agg #[.int .i64 x.uid, fv, .int .i64 x.day, .string ⟨x.text.toArray⟩], .int .i64 x.which, .agg #[.int .i64 x.many, .int .i64 x.greatest]] W fun e w' => e = .returned (.bool (holdsK x t)) ∧ Below W.heap.size W w') :
    Calls Tryz.prog 8 #[.agg #[.int .i64 code, .string ⟨name.toArray⟩, .string ⟨text.toArray⟩, .int .i64 n, sv, .slice ka keys.length kc], .agg #[.int .i64 x.uid, fv, .int .i64 x.day, .string ⟨x.text.toArray⟩], .int .i64 x.which, .agg #[.int .i64 x.many, .int .i64 x.greatest]] w fun e w' => e = .returned (.bool (!(keys.any fun t => !holdsK x t))) ∧ Below w.heap.size w w' := by
  have hw := holdW_at w (.int .i64 code) (.string ⟨name.toArray⟩) (.string ⟨text.toArray⟩) (.int .i64 n) sv (.slice ka keys.length kc) (.int .i64 x.uid) fv (.int .i64 x.day) (.string ⟨x.text.toArray⟩) (.int .i64 x.which) (.int .i64 x.many) (.int .i64 x.greatest)
  have cC := keysC3 x fv w keys ka kc vs hkl h6 hcell ih _ hw
  generalize (keys.any fun t => !holdsK x t) = r at *
  clear ih hcell h6
  have e1 : decide (code = 1) = false := decide_eq_false (hco 1 (by simp))
  have b1 : (code == 1) = false := by rw [beq_eq_false_iff_ne]; exact hco 1 (by simp)
  have e2 : decide (code = 2) = false := decide_eq_false (hco 2 (by simp))
  have b2 : (code == 2) = false := by rw [beq_eq_false_iff_ne]; exact hco 2 (by simp)
  have e3 : decide (code = 3) = false := decide_eq_false (hco 3 (by simp))
  have b3 : (code == 3) = false := by rw [beq_eq_false_iff_ne]; exact hco 3 (by simp)
  have e4 : decide (code = 4) = false := decide_eq_false (hco 4 (by simp))
  have b4 : (code == 4) = false := by rw [beq_eq_false_iff_ne]; exact hco 4 (by simp)
  have e5 : decide (code = 5) = false := decide_eq_false (hco 5 (by simp))
  have b5 : (code == 5) = false := by rw [beq_eq_false_iff_ne]; exact hco 5 (by simp)
  have e6 : decide (code = 6) = false := decide_eq_false (hco 6 (by simp))
  have b6 : (code == 6) = false := by rw [beq_eq_false_iff_ne]; exact hco 6 (by simp)
  have e7 : decide (code = 7) = false := decide_eq_false (hco 7 (by simp))
  have b7 : (code == 7) = false := by rw [beq_eq_false_iff_ne]; exact hco 7 (by simp)
  have e8 : decide (code = 8) = false := decide_eq_false (hco 8 (by simp))
  have b8 : (code == 8) = false := by rw [beq_eq_false_iff_ne]; exact hco 8 (by simp)
  have e9 : decide (code = 9) = false := decide_eq_false (hco 9 (by simp))
  have b9 : (code == 9) = false := by rw [beq_eq_false_iff_ne]; exact hco 9 (by simp)
  have e10 : decide (code = 10) = false := decide_eq_false (hco 10 (by simp))
  have b10 : (code == 10) = false := by rw [beq_eq_false_iff_ne]; exact hco 10 (by simp)
  have e11 : decide (code = 11) = false := decide_eq_false (hco 11 (by simp))
  have b11 : (code == 11) = false := by rw [beq_eq_false_iff_ne]; exact hco 11 (by simp)
  have e12 : decide (code = 12) = false := decide_eq_false (hco 12 (by simp))
  have b12 : (code == 12) = false := by rw [beq_eq_false_iff_ne]; exact hco 12 (by simp)
  have e13 : decide (code = 13) = false := decide_eq_false (hco 13 (by simp))
  have b13 : (code == 13) = false := by rw [beq_eq_false_iff_ne]; exact hco 13 (by simp)
  have e14 : decide (code = 14) = false := decide_eq_false (hco 14 (by simp))
  have b14 : (code == 14) = false := by rw [beq_eq_false_iff_ne]; exact hco 14 (by simp)
  clear hco
  obtain ⟨k0, k1, k2, k3, k4, k5⟩ := six_cells' hw.k
  obtain ⟨l0, l1, l2, l3⟩ := four_cells hw.l
  have n0 := one_cell hw.n
  obtain ⟨m0, m1⟩ := two_cells hw.m
  have Y := Lib.hid hw.below
  clear hw
  go_enter Tryz.func8, Tryz.ntmps8
  go_upto_region 1 with fail
  generalize (((w.alloc (.cells #[.int .i64 code, .string ⟨name.toArray⟩, .string ⟨text.toArray⟩, .int .i64 n, sv, .slice ka keys.length kc] 33)).alloc (.cells #[.int .i64 x.uid, fv, .int .i64 x.day, .string ⟨x.text.toArray⟩] 25)).alloc (.cells #[.int .i64 x.which] 3)).alloc (.cells #[.int .i64 x.many, .int .i64 x.greatest] 29) = w1 at *
  go_wp2_with (go_at_call 21; go_loud (((with_reducible refine cC.mono ?_); rintro e w2 ⟨rfl, h⟩; have y := Y.out.trans (h.mono Y.out.size))))
  go_ret
  exact ⟨rfl, y⟩

end Go.Proofs.YtmhidmkomljjjaaGreatDoor
namespace Go.Proofs.YtmhidmkomljjjaaGreatDoor
open Go.RowKit Go.Shelf Go.Sort
set_option linter.unusedSimpArgs false

set_option maxRecDepth 100000 in
set_option maxHeartbeats 8000000 in
theorem hold_not (sv : Value) (name text : List UInt8) (n : Int) (fv : Value) (x : LetK) (w : World) (g off m kc : Nat) (hm : 0 < m) (a b c d e f : Value) (hg : g < w.heap.size) (hc : w.cell? ⟨g, off, none⟩ = some a ∧ w.cell? ⟨g, off + 1, none⟩ = some b ∧ w.cell? ⟨g, off + 2, none⟩ = some c ∧ w.cell? ⟨g, off + 3, none⟩ = some d ∧ w.cell? ⟨g, off + 4, none⟩ = some e ∧ w.cell? ⟨g, off + 5, none⟩ = some f) (r : Bool)
    (cH : ∀ W, Below w.heap.size w W → Calls Tryz.prog 8 #[.agg #[a, b, c, d, e, f], .agg #[.int .i64 x.uid, fv, .int .i64 x.day, .string ⟨x.text.toArray⟩], .int .i64 x.which, .agg #[.int .i64 x.many, .int .i64 x.greatest]] W fun e w' => e = .returned (.bool r) ∧ Below W.heap.size W w') :
    Calls Tryz.prog 8 #[.agg #[.int .i64 13, .string ⟨name.toArray⟩, .string ⟨text.toArray⟩, .int .i64 n, sv, .slice (some ⟨g, off, none⟩) m kc], .agg #[.int .i64 x.uid, fv, .int .i64 x.day, .string ⟨x.text.toArray⟩], .int .i64 x.which, .agg #[.int .i64 x.many, .int .i64 x.greatest]] w fun e w' => e = .returned (.bool (!r)) ∧ Below w.heap.size w w' := by
  have hw := holdW_at w (.int .i64 13) (.string ⟨name.toArray⟩) (.string ⟨text.toArray⟩) (.int .i64 n) sv (.slice (some ⟨g, off, none⟩) m kc) (.int .i64 x.uid) fv (.int .i64 x.day) (.string ⟨x.text.toArray⟩) (.int .i64 x.which) (.int .i64 x.many) (.int .i64 x.greatest)
  obtain ⟨c0, c1, c2, c3, c4, c5⟩ := hc
  have d0 := (hw.below.cell (p := ⟨g, off, none⟩) hg).trans c0
  have d1 := (hw.below.cell (p := ⟨g, off + 1, none⟩) hg).trans c1
  have d2 := (hw.below.cell (p := ⟨g, off + 2, none⟩) hg).trans c2
  have d3 := (hw.below.cell (p := ⟨g, off + 3, none⟩) hg).trans c3
  have d4 := (hw.below.cell (p := ⟨g, off + 4, none⟩) hg).trans c4
  have d5 := (hw.below.cell (p := ⟨g, off + 5, none⟩) hg).trans c5
  have CH := Lib.hid cH
  have hmz : (0 : Int) < (m : Int) := by omega
  clear c0 c1 c2 c3 c4 c5 cH
  obtain ⟨k0, k1, k2, k3, k4, k5⟩ := six_cells' hw.k
  obtain ⟨l0, l1, l2, l3⟩ := four_cells hw.l
  have n0 := one_cell hw.n
  obtain ⟨m0, m1⟩ := two_cells hw.m
  have Y := Lib.hid hw.below
  clear hw
  go_enter Tryz.func8, Tryz.ntmps8
  go_upto_region 1 with fail
  generalize (((w.alloc (.cells #[.int .i64 13, .string ⟨name.toArray⟩, .string ⟨text.toArray⟩, .int .i64 n, sv, .slice (some ⟨g, off, none⟩) m kc] 33)).alloc (.cells #[.int .i64 x.uid, fv, .int .i64 x.day, .string ⟨x.text.toArray⟩] 25)).alloc (.cells #[.int .i64 x.which] 3)).alloc (.cells #[.int .i64 x.many, .int .i64 x.greatest] 29) = w1 at *
  go_upto_region 29 with fail
  have yd := Y.out.drew
  have cH1 := CH.out _ yd
  go_still_tail 7, (by kernel_rfl)
  change wpList _ _ _ _ _ w1.drew
  go_wp2_with (go_at_call 8; go_loud (((with_reducible refine cH1.mono ?_); rintro e w2 ⟨rfl, h⟩; have y := yd.trans (h.mono yd.size))))
  go_ret
  exact ⟨rfl, y⟩

end Go.Proofs.YtmhidmkomljjjaaGreatDoor
namespace Go.Proofs.YtmhidmkomljjjaaGreatDoor
open Go.RowKit Go.Shelf Go.Sort
set_option linter.unusedSimpArgs false

set_option maxRecDepth 100000 in
set_option maxHeartbeats 8000000 in
theorem hold_head_bad (sv kv : Value) (name text : List UInt8) (n : Int) (fv : Value) (x : LetK) (w : World) (E : Nat × Nat) (hx : x.text.length ≤ 9000) (hM : MaxL w) (hF : fieldsL x.text = .inl E) :
    Calls Tryz.prog 8 #[.agg #[.int .i64 3, .string ⟨name.toArray⟩, .string ⟨text.toArray⟩, .int .i64 n, sv, kv], .agg #[.int .i64 x.uid, fv, .int .i64 x.day, .string ⟨x.text.toArray⟩], .int .i64 x.which, .agg #[.int .i64 x.many, .int .i64 x.greatest]] w fun e w' => e = .returned (.bool (false)) ∧ Below w.heap.size w w' := by
  have hw := holdW_at w (.int .i64 3) (.string ⟨name.toArray⟩) (.string ⟨text.toArray⟩) (.int .i64 n) sv kv (.int .i64 x.uid) fv (.int .i64 x.day) (.string ⟨x.text.toArray⟩) (.int .i64 x.which) (.int .i64 x.many) (.int .i64 x.greatest)
  have cF := fields_bad hF _ hx (MaxL.below hM hw.below)
  clear hM hF
  obtain ⟨k0, k1, k2, k3, k4, k5⟩ := six_cells' hw.k
  obtain ⟨l0, l1, l2, l3⟩ := four_cells hw.l
  have n0 := one_cell hw.n
  obtain ⟨m0, m1⟩ := two_cells hw.m
  have Y := Lib.hid hw.below
  clear hw
  go_enter Tryz.func8, Tryz.ntmps8
  go_upto_region 1 with fail
  generalize (((w.alloc (.cells #[.int .i64 3, .string ⟨name.toArray⟩, .string ⟨text.toArray⟩, .int .i64 n, sv, kv] 33)).alloc (.cells #[.int .i64 x.uid, fv, .int .i64 x.day, .string ⟨x.text.toArray⟩] 25)).alloc (.cells #[.int .i64 x.which] 3)).alloc (.cells #[.int .i64 x.many, .int .i64 x.greatest] 29) = w1 at *
  go_wp2_with (go_at_call 14; go_loud (((with_reducible refine cF.mono ?_); rintro e w2 ⟨g, rfl, h⟩; have y := Y.out.trans (h.mono Y.out.size))))
  go_ret
  exact ⟨rfl, y⟩

end Go.Proofs.YtmhidmkomljjjaaGreatDoor
namespace Go.Proofs.YtmhidmkomljjjaaGreatDoor
open Go.RowKit Go.Shelf Go.Sort
set_option linter.unusedSimpArgs false

set_option maxRecDepth 100000 in
set_option maxHeartbeats 8000000 in
theorem hold_head_good (sv kv : Value) (name text : List UInt8) (n : Int) (fv : Value) (x : LetK) (w : World) (l : List Fld) (hx : x.text.length ≤ 9000) (ht : text.length ≤ 2000000) (hM : MaxL w) (hF : fieldsL x.text = .inr l) :
    Calls Tryz.prog 8 #[.agg #[.int .i64 3, .string ⟨name.toArray⟩, .string ⟨text.toArray⟩, .int .i64 n, sv, kv], .agg #[.int .i64 x.uid, fv, .int .i64 x.day, .string ⟨x.text.toArray⟩], .int .i64 x.which, .agg #[.int .i64 x.many, .int .i64 x.greatest]] w fun e w' => e = .returned (.bool (l.any fun f => smallL f.1 == name && hasK f.2 text)) ∧ Below w.heap.size w w' := by
  have hw := holdW_at w (.int .i64 3) (.string ⟨name.toArray⟩) (.string ⟨text.toArray⟩) (.int .i64 n) sv kv (.int .i64 x.uid) fv (.int .i64 x.day) (.string ⟨x.text.toArray⟩) (.int .i64 x.which) (.int .i64 x.many) (.int .i64 x.greatest)
  have cF := fields_good hF _ hx (MaxL.below hM hw.below)
  have HM := Lib.hid (MaxL.below hM hw.below)
  have KK := Lib.hid hw.k
  clear hM hF
  obtain ⟨k0, k1, k2, k3, k4, k5⟩ := six_cells' hw.k
  obtain ⟨l0, l1, l2, l3⟩ := four_cells hw.l
  have n0 := one_cell hw.n
  obtain ⟨m0, m1⟩ := two_cells hw.m
  have Y := Lib.hid hw.below
  clear hw
  go_enter Tryz.func8, Tryz.ntmps8
  go_upto_region 1 with fail
  generalize (((w.alloc (.cells #[.int .i64 3, .string ⟨name.toArray⟩, .string ⟨text.toArray⟩, .int .i64 n, sv, kv] 33)).alloc (.cells #[.int .i64 x.uid, fv, .int .i64 x.day, .string ⟨x.text.toArray⟩] 25)).alloc (.cells #[.int .i64 x.which] 3)).alloc (.cells #[.int .i64 x.many, .int .i64 x.greatest] 29) = w1 at *
  go_wp2_with (first
    | (go_at_call 14; go_loud (((with_reducible refine cF.mono ?_); rintro e w2 ⟨ao, cap, rfl, h, hL, hcell⟩; have y := Y.out.trans (h.mono Y.out.size); have cC := contF_any ao cap l (fun f => smallL f.1 == name && hasK f.2 text) (.pointer (some ⟨w.heap.size, 0, none⟩)) w2 (by have := hL.1; omega) hcell (fun j f W hj hb => hfield_any f w.heap.size name text _ _ _ _ _ W (below_same (h.trans (hb.mono h.size)) KK.out) (hL.2 f (List.mem_of_getElem? hj)).1 (hL.2 f (List.mem_of_getElem? hj)).2 ht (MaxL.below HM.out (h.trans (hb.mono h.size)))); clear hcell hL)))
    | (go_at_call 15; go_loud (((with_reducible refine cC.mono ?_); rintro e w3 ⟨rfl, h3⟩; have y3 := y.trans (h3.mono y.size)))))
  go_ret
  exact ⟨rfl, y3⟩

end Go.Proofs.YtmhidmkomljjjaaGreatDoor
namespace Go.Proofs.YtmhidmkomljjjaaGreatDoor
open Go.RowKit Go.Shelf Go.Sort
set_option linter.unusedSimpArgs false

theorem rg_same {W : World} {ok : Nat → Prop} {sa : Option Addr} {sc : Nat} {set : List Rg} (h2 : set.length ≤ sc) (h3 : sc ≤ 9223372036854775807) (h4 : sa = none → sc = 0)
    (h5 : ∀ (j : Nat) (r : Rg), set[j]? = some r → ∃ g off, sa = some ⟨g, off, none⟩ ∧ ok g ∧ g < W.heap.size ∧ W.cell? ⟨g, off + j * 2, none⟩ = some (.int .i64 r.1) ∧ W.cell? ⟨g, off + j * 2 + 1, none⟩ = some (.int .i64 r.2)) : RgRow W (.slice sa set.length sc) set := by
  refine ⟨sa, sc, rfl, h2, ⟨h3, h4⟩, fun j r hj => ?_⟩
  obtain ⟨g, off, e, -, hl, c0, c1⟩ := h5 j r hj
  exact ⟨g, off, e, hl, c0, c1⟩
/-- Holds answers as its plain function does -/
theorem holds_any (x : LetK) (fv : Value) (hl : x.flags.length ≤ 1000000) (hx : x.text.length ≤ 9000) {W0 : World} {ok : Nat → Prop} {cs : List Value} {k : KeyP} (h : KeyC W0 ok cs k) : ∀ w, Below W0.heap.size W0 w → SRow w fv x.flags → MaxL w →
    Calls Tryz.prog 8 #[.agg cs.toArray, .agg #[.int .i64 x.uid, fv, .int .i64 x.day, .string ⟨x.text.toArray⟩], .int .i64 x.which, .agg #[.int .i64 x.many, .int .i64 x.greatest]] w fun e w' => e = .returned (.bool (holdsK x k)) ∧ Below w.heap.size w w' := by
  induction h with
  | mk code name text n set keys sa ka sc kc vs h1 h2 h3 h4 h5 h6 h7 h8 h9 hsub ih =>
    intro w hb hf hM
    have hset : RgRow w (.slice sa set.length sc) set := (rg_same h2 h3 h4 h5).below hb
    have h6' : ∀ (j : Nat) (t : KeyP), keys[j]? = some t → ∃ a b c d e f, vs j = [a, b, c, d, e, f] := fun j t hj => by
      obtain ⟨_, _, _, _, _, _, _, _, _, _, e⟩ := (hsub j t hj).six
      exact ⟨_, _, _, _, _, _, e⟩
    have hcell : ∀ (j : Nat) (t : KeyP), keys[j]? = some t → ∃ b off, ka = some ⟨b, off, none⟩ ∧ b < w.heap.size ∧ ∀ (i : Nat) (u : Value), (vs j)[i]? = some u → w.cell? ⟨b, off + j * 6 + i, none⟩ = some u := fun j t hj => by
      obtain ⟨g, off, e, -, hg, hc⟩ := h9 j t hj
      exact ⟨g, off, e, Nat.lt_of_lt_of_le hg hb.size, fun i u hu => (hb.cell (p := ⟨g, off + j * 6 + i, none⟩) hg).trans (hc i u hu)⟩
    have ihw : ∀ (j : Nat) (t : KeyP), keys[j]? = some t → ∀ W, Below w.heap.size w W → Calls Tryz.prog 8 #[.agg (vs j).toArray, .agg #[.int .i64 x.uid, fv, .int .i64 x.day, .string ⟨x.text.toArray⟩], .int .i64 x.which, .agg #[.int .i64 x.many, .int .i64 x.greatest]] W fun e w' => e = .returned (.bool (holdsK x t)) ∧ Below W.heap.size W w' :=
      fun j t hj W hW => ih j t hj W (hb.trans (hW.mono hb.size)) (hf.below hW) (MaxL.below hM hW)
    have hkl : keys.length ≤ 9223372036854775807 := Nat.le_trans h7 h8
    rw [holdsK]
    by_cases c1 : code = 1
    · subst c1; exact hold_all _ _ name text n fv x w
    rw [if_neg c1]
    by_cases c2 : code = 2
    · subst c2; exact hold_flag _ _ name text n fv x w hf hl
    rw [if_neg c2]
    by_cases c3 : code = 3
    · subst c3
      rw [if_pos rfl]
      unfold headIs
      cases hF : fieldsL x.text with
      | inl E => exact hold_head_bad _ _ name text n fv x w E hx hM hF
      | inr l => exact hold_head_good _ _ name text n fv x w l hx h1 hM hF
    rw [if_neg c3]
    by_cases c4 : code = 4
    · subst c4; exact hold_body _ _ name text n fv x w hx h1 hM
    rw [if_neg c4]
    by_cases c5 : code = 5
    · subst c5; exact hold_text _ _ name text n fv x w hx h1 hM
    rw [if_neg c5]
    by_cases c6 : code = 6
    · subst c6; exact hold_larger _ _ name text n fv x w
    rw [if_neg c6]
    by_cases c7 : code = 7
    · subst c7; exact hold_smaller _ _ name text n fv x w
    rw [if_neg c7]
    by_cases c8 : code = 8
    · subst c8; exact hold_before _ _ name text n fv x w
    rw [if_neg c8]
    by_cases c9 : code = 9
    · subst c9; exact hold_on _ _ name text n fv x w
    rw [if_neg c9]
    by_cases c10 : code = 10
    · subst c10; exact hold_since _ _ name text n fv x w
    rw [if_neg c10]
    by_cases c11 : code = 11
    · subst c11; exact hold_uids _ name text n fv x w set _ hset
    rw [if_neg c11]
    by_cases c12 : code = 12
    · subst c12; exact hold_numbers _ name text n fv x w set _ hset
    rw [if_neg c12]
    by_cases c13 : code = 13
    · subst c13
      rw [if_pos rfl]
      cases keys with
      | nil => exact absurd rfl (h6 rfl)
      | cons t r =>
        obtain ⟨a, b, c, d, e, f, hv⟩ := h6' 0 t rfl
        obtain ⟨g, off, rfl, hg, hc⟩ := hcell 0 t rfl
        have hi := ihw 0 t rfl
        rw [hv] at hi hc
        rw [holdsOne]
        exact hold_not _ name text n fv x w g off (t :: r).length kc (by simp) a b c d e f hg ⟨by simpa using hc 0 _ rfl, by simpa using hc 1 _ rfl, by simpa using hc 2 _ rfl, by simpa using hc 3 _ rfl, by simpa using hc 4 _ rfl, by simpa using hc 5 _ rfl⟩ (holdsK x t) hi
    rw [if_neg c13]
    by_cases c14 : code = 14
    · subst c14
      rw [if_pos rfl, holdsAny_any]
      exact hold_or _ name text n fv x w keys ka kc vs hkl h6' hcell ihw
    rw [if_neg c14, holdsAll_all]
    refine hold_and code (fun i hi => ?_) _ name text n fv x w keys ka kc vs hkl h6' hcell ihw
    simp only [List.mem_cons, List.not_mem_nil, or_false] at hi
    rcases hi with rfl | rfl | rfl | rfl | rfl | rfl | rfl | rfl | rfl | rfl | rfl | rfl | rfl | rfl <;> assumption
end Go.Proofs.YtmhidmkomljjjaaGreatDoor
