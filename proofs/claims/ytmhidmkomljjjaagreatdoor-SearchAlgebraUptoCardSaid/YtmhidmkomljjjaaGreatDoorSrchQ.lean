/- The walk over search.Holds: whether a letter is what a key asks for. Conditions: bytealg.MaxLen lies. -/
import Derived.Test.YtmhidmkomljjjaaGreatDoorSrchP
import Derived.Deep.DeepCutAuto
namespace Go.Proofs.YtmhidmkomljjjaaGreatDoor
open Go.RowKit Go.Shelf Go.Sort
set_option linter.unusedSimpArgs false

theorem holdsAny_any (x : LetK) : ∀ l : List KeyP, holdsAny x l = l.any (holdsK x)
  | [] => by simp [holdsAny]
  | k :: l => by rw [holdsAny, holdsAny_any x l, List.any_cons]
theorem holdsAll_all (x : LetK) : ∀ l : List KeyP, holdsAll x l = !(l.any fun k => !holdsK x k)
  | [] => by simp [holdsAll]
  | k :: l => by rw [holdsAll, holdsAll_all x l, List.any_cons, Bool.not_or, Bool.not_not]
theorem four_cells {w : World} {g : Nat} {a b c d : Value} {T : TypeId} (h : w.heap[g]? = some (.cells #[a, b, c, d] T (0, 0))) : w.cell? ⟨g, 0, none⟩ = some a ∧ w.cell? ⟨g, 1, none⟩ = some b ∧ w.cell? ⟨g, 2, none⟩ = some c ∧ w.cell? ⟨g, 3, none⟩ = some d := by
  refine ⟨?_, ?_, ?_, ?_⟩ <;> (rw [Lib.cell_of_heap h]; rfl)
theorem six_cells' {w : World} {g : Nat} {a b c d e f : Value} {T : TypeId} (h : w.heap[g]? = some (.cells #[a, b, c, d, e, f] T (0, 0))) : w.cell? ⟨g, 0, none⟩ = some a ∧ w.cell? ⟨g, 1, none⟩ = some b ∧ w.cell? ⟨g, 2, none⟩ = some c ∧ w.cell? ⟨g, 3, none⟩ = some d ∧ w.cell? ⟨g, 4, none⟩ = some e ∧ w.cell? ⟨g, 5, none⟩ = some f := by
  refine ⟨?_, ?_, ?_, ?_, ?_, ?_⟩ <;> (rw [Lib.cell_of_heap h]; rfl)
theorem one_cell {w : World} {g : Nat} {a : Value} {T : TypeId} (h : w.heap[g]? = some (.cells #[a] T (0, 0))) : w.cell? ⟨g, 0, none⟩ = some a := by
  rw [Lib.cell_of_heap h]; rfl
/-- the world in which Holds begins its work -/
structure HoldW (w w1 : World) (a b c d e f u fv dy tx wh mn gr : Value) : Prop where
  below : Below w.heap.size w w1
  k : w1.heap[w.heap.size]? = some (.cells #[a, b, c, d, e, f] 33 (0, 0))
  l : w1.heap[w.heap.size + 1]? = some (.cells #[u, fv, dy, tx] 25 (0, 0))
  n : w1.heap[w.heap.size + 2]? = some (.cells #[wh] 3 (0, 0))
  m : w1.heap[w.heap.size + 3]? = some (.cells #[mn, gr] 29 (0, 0))
theorem holdW_at (w : World) (a b c d e f u fv dy tx wh mn gr : Value) : HoldW w ((((w.alloc (.cells #[a, b, c, d, e, f] 33)).alloc (.cells #[u, fv, dy, tx] 25)).alloc (.cells #[wh] 3)).alloc (.cells #[mn, gr] 29)) a b c d e f u fv dy tx wh mn gr := by
  have s1 := alloc_size w (.cells #[a, b, c, d, e, f] 33)
  have k1 := World.heap_alloc_new w (.cells #[a, b, c, d, e, f] 33)
  have b1 := (Below.refl w.heap.size w).alloc (Nat.le_refl _) (.cells #[a, b, c, d, e, f] 33)
  generalize w.alloc (.cells #[a, b, c, d, e, f] 33) = w1 at *
  have s2 := alloc_size w1 (.cells #[u, fv, dy, tx] 25)
  have l2 := World.heap_alloc_new w1 (.cells #[u, fv, dy, tx] 25)
  have k2 := alloc_same (x := .cells #[u, fv, dy, tx] 25) k1
  have b2 := b1.alloc (by omega) (.cells #[u, fv, dy, tx] 25)
  generalize w1.alloc (.cells #[u, fv, dy, tx] 25) = w2 at *
  have s3 := alloc_size w2 (.cells #[wh] 3)
  have n3 := World.heap_alloc_new w2 (.cells #[wh] 3)
  have k3 := alloc_same (x := .cells #[wh] 3) k2
  have l3 := alloc_same (x := .cells #[wh] 3) l2
  have b3 := b2.alloc (by omega) (.cells #[wh] 3)
  generalize w2.alloc (.cells #[wh] 3) = w3 at *
  have m4 := World.heap_alloc_new w3 (.cells #[mn, gr] 29)
  have k4 := alloc_same (x := .cells #[mn, gr] 29) k3
  have l4 := alloc_same (x := .cells #[mn, gr] 29) l3
  have n4 := alloc_same (x := .cells #[mn, gr] 29) n3
  have b4 := b3.alloc (by omega) (.cells #[mn, gr] 29)
  rw [s1] at l4
  rw [s2, s1] at n4
  rw [s3, s2, s1] at m4
  exact ⟨b4, k4, l4, n4, m4⟩

theorem splitHd_len2 (S : List UInt8) : (splitHd S).2.length ≤ S.length := by
  unfold splitHd
  repeat' split
  all_goals simp
theorem fld_open {W : World} {v : Value} {l : List Fld} (hv : FldRow W v l) : ∃ ao cap, v = .slice ao l.length cap ∧ (∀ (j : Nat) (f : Fld), l[j]? = some f → ∃ b off, ao = some ⟨b, off, none⟩ ∧ b < W.heap.size ∧ W.cell? ⟨b, off + j * 2, none⟩ = some (.string ⟨f.1.toArray⟩) ∧ W.cell? ⟨b, off + j * 2 + 1, none⟩ = some (.string ⟨f.2.toArray⟩)) := by
  rcases hv with ⟨rfl, rfl⟩ | ⟨b, off, cap, rfl, hlt, hc⟩
  · exact ⟨none, 0, rfl, fun j f hj => by simp at hj⟩
  · exact ⟨_, cap, rfl, fun j f hj => ⟨b, off, rfl, hlt, (hc j f hj).1, (hc j f hj).2⟩⟩
theorem fields_bad {S : List UInt8} {E : Nat × Nat} (h : fieldsL S = .inl E) (w : World) (hs : S.length ≤ 9000) (hM : MaxL w) : Calls Tryz.prog 14 #[.string ⟨S.toArray⟩] w fun e w' => ∃ g, e = .returned (.tuple #[.slice none 0 0, .iface 72 (.pointer (some ⟨g, 0, none⟩))]) ∧ Below w.heap.size w w' := by
  refine (fields_any S w hs hM).mono ?_
  rw [h]
  rintro e w' ⟨v, rfl, ⟨g, rfl, -, -⟩, hb⟩
  exact ⟨g, rfl, hb⟩
theorem fields_good {S : List UInt8} {l : List Fld} (h : fieldsL S = .inr l) (w : World) (hs : S.length ≤ 9000) (hM : MaxL w) : Calls Tryz.prog 14 #[.string ⟨S.toArray⟩] w fun e w' => ∃ ao cap, e = .returned (.tuple #[.slice ao l.length cap, .nilIface]) ∧ Below w.heap.size w w' ∧ Lens l ∧
    (∀ (j : Nat) (f : Fld), l[j]? = some f → ∃ b off, ao = some ⟨b, off, none⟩ ∧ b < w'.heap.size ∧ w'.cell? ⟨b, off + j * 2, none⟩ = some (.string ⟨f.1.toArray⟩) ∧ w'.cell? ⟨b, off + j * 2 + 1, none⟩ = some (.string ⟨f.2.toArray⟩)) := by
  refine (fields_any S w hs hM).mono ?_
  rw [h]
  rintro e w' ⟨v, rfl, ⟨ao, cap, rfl, hr, hL⟩, hb⟩
  obtain ⟨ao', cap', e, hc⟩ := fld_open hr
  cases e
  exact ⟨ao, cap, rfl, hb, hL, hc⟩
set_option maxRecDepth 100000 in
set_option maxHeartbeats 4000000 in
theorem hclos2_any (a b c d e f : Value) (L N M : Nat) (u fv dy tx wh mn gr : Value) (W : World) (hL : W.heap[L]? = some (.cells #[u, fv, dy, tx] 25 (0, 0))) (hN : W.heap[N]? = some (.cells #[wh] 3 (0, 0))) (hM : W.heap[M]? = some (.cells #[mn, gr] 29 (0, 0))) (r : Bool)
    (cH : ∀ W', Below W.heap.size W W' → Calls Tryz.prog 8 #[.agg #[a, b, c, d, e, f], .agg #[u, fv, dy, tx], wh, .agg #[mn, gr]] W' fun e w' => e = .returned (.bool r) ∧ Below W'.heap.size W' w') :
    Calls Tryz.prog 22 #[.agg #[a, b, c, d, e, f], .pointer (some ⟨L, 0, none⟩), .pointer (some ⟨N, 0, none⟩), .pointer (some ⟨M, 0, none⟩)] W fun e w' => e = .returned (.bool r) ∧ Below W.heap.size W w' := by
  have y0 := (Below.refl W.heap.size W).alloc (Nat.le_refl _) (.cells #[a, b, c, d, e, f] 33)
  have z0 := World.heap_alloc_new W (.cells #[a, b, c, d, e, f] 33)
  have cH1 := cH _ y0
  obtain ⟨l0, l1, l2, l3⟩ := four_cells (below_same y0 hL)
  have n0 := one_cell (below_same y0 hN)
  obtain ⟨m0, m1⟩ := two_cells (below_same y0 hM)
  obtain ⟨k0, k1, k2, k3, k4, k5⟩ := six_cells' z0
  have Y := Lib.hid y0
  clear cH y0 z0 hL hN hM
  go_enter Tryz.func22, Tryz.ntmps22
  go_upto_region 1 with fail
  generalize W.alloc (.cells #[a, b, c, d, e, f] 33) = w1 at *
  go_wp2_with (go_at_call 8; go_loud (((with_reducible refine cH1.mono ?_); rintro e w2 ⟨rfl, h⟩; have y := Y.out.trans (h.mono Y.out.size))))
  go_ret
  exact ⟨rfl, y⟩

set_option maxRecDepth 100000 in
set_option maxHeartbeats 4000000 in
theorem hclos3_any (a b c d e f : Value) (L N M : Nat) (u fv dy tx wh mn gr : Value) (W : World) (hL : W.heap[L]? = some (.cells #[u, fv, dy, tx] 25 (0, 0))) (hN : W.heap[N]? = some (.cells #[wh] 3 (0, 0))) (hM : W.heap[M]? = some (.cells #[mn, gr] 29 (0, 0))) (r : Bool)
    (cH : ∀ W', Below W.heap.size W W' → Calls Tryz.prog 8 #[.agg #[a, b, c, d, e, f], .agg #[u, fv, dy, tx], wh, .agg #[mn, gr]] W' fun e w' => e = .returned (.bool r) ∧ Below W'.heap.size W' w') :
    Calls Tryz.prog 23 #[.agg #[a, b, c, d, e, f], .pointer (some ⟨L, 0, none⟩), .pointer (some ⟨N, 0, none⟩), .pointer (some ⟨M, 0, none⟩)] W fun e w' => e = .returned (.bool (!r)) ∧ Below W.heap.size W w' := by
  have y0 := (Below.refl W.heap.size W).alloc (Nat.le_refl _) (.cells #[a, b, c, d, e, f] 33)
  have z0 := World.heap_alloc_new W (.cells #[a, b, c, d, e, f] 33)
  have cH1 := cH _ y0
  obtain ⟨l0, l1, l2, l3⟩ := four_cells (below_same y0 hL)
  have n0 := one_cell (below_same y0 hN)
  obtain ⟨m0, m1⟩ := two_cells (below_same y0 hM)
  obtain ⟨k0, k1, k2, k3, k4, k5⟩ := six_cells' z0
  have Y := Lib.hid y0
  clear cH y0 z0 hL hN hM
  go_enter Tryz.func23, Tryz.ntmps23
  go_upto_region 1 with fail
  generalize W.alloc (.cells #[a, b, c, d, e, f] 33) = w1 at *
  go_wp2_with (go_at_call 8; go_loud (((with_reducible refine cH1.mono ?_); rintro e w2 ⟨rfl, h⟩; have y := Y.out.trans (h.mono Y.out.size))))
  go_ret
  exact ⟨rfl, y⟩

theorem keysC2 (x : LetK) (fv : Value) (w : World) (keys : List KeyP) (ka : Option Addr) (kc : Nat) (vs : Nat → List Value) (hkl : keys.length ≤ 9223372036854775807) (h6 : ∀ (j : Nat) (t : KeyP), keys[j]? = some t → ∃ a b c d e f, vs j = [a, b, c, d, e, f])
    (hcell : ∀ (j : Nat) (t : KeyP), keys[j]? = some t → ∃ b off, ka = some ⟨b, off, none⟩ ∧ b < w.heap.size ∧ ∀ (i : Nat) (u : Value), (vs j)[i]? = some u → w.cell? ⟨b, off + j * 6 + i, none⟩ = some u)
    (ih : ∀ (j : Nat) (t : KeyP), keys[j]? = some t → ∀ W, Below w.heap.size w W → Calls Tryz.prog 8 #[.agg (vs j).toArray, .agg #[.int .i64 x.uid, fv, .int .i64 x.day, .string ⟨x.text.toArray⟩], .int .i64 x.which, .agg #[.int .i64 x.many, .int .i64 x.greatest]] W fun e w' => e = .returned (.bool (holdsK x t)) ∧ Below W.heap.size W w')
    (w1 : World) {a b c d e f : Value} (hw : HoldW w w1 a b c d e f (.int .i64 x.uid) fv (.int .i64 x.day) (.string ⟨x.text.toArray⟩) (.int .i64 x.which) (.int .i64 x.many) (.int .i64 x.greatest)) :
    Calls Tryz.prog 21 #[.slice ka keys.length kc, .func (.func 22) #[] #[.pointer (some ⟨w.heap.size + 1, 0, none⟩), .pointer (some ⟨w.heap.size + 2, 0, none⟩), .pointer (some ⟨w.heap.size + 3, 0, none⟩)]] w1 fun e w' => e = .returned (.bool (keys.any fun t => holdsK x t)) ∧ Below w1.heap.size w1 w' := by
  refine contK2_any ka kc keys vs (fun t => holdsK x t) _ _ _ w1 hkl (fun j t hj => ?_) (fun j t W hj hb => ?_)
  · obtain ⟨b, off, e, hb, hc⟩ := hcell j t hj
    exact ⟨b, off, e, Nat.lt_of_lt_of_le hb hw.below.size, fun i u hu => (hw.below.cell (p := ⟨b, off + j * 6 + i, none⟩) hb).trans (hc i u hu)⟩
  · obtain ⟨a, b, c, d, e, f, hv⟩ := h6 j t hj
    refine ⟨⟨a, b, c, d, e, f, hv⟩, ?_⟩
    have h0 := ih j t hj
    rw [hv] at h0 ⊢
    have hwW := hw.below.trans (hb.mono hw.below.size)
    exact hclos2_any a b c d e f _ _ _ _ fv _ _ _ _ _ W (below_same hb hw.l) (below_same hb hw.n) (below_same hb hw.m) (holdsK x t) (fun W' hW' => h0 W' (hwW.trans (hW'.mono hwW.size)))
theorem keysC3 (x : LetK) (fv : Value) (w : World) (keys : List KeyP) (ka : Option Addr) (kc : Nat) (vs : Nat → List Value) (hkl : keys.length ≤ 9223372036854775807) (h6 : ∀ (j : Nat) (t : KeyP), keys[j]? = some t → ∃ a b c d e f, vs j = [a, b, c, d, e, f])
    (hcell : ∀ (j : Nat) (t : KeyP), keys[j]? = some t → ∃ b off, ka = some ⟨b, off, none⟩ ∧ b < w.heap.size ∧ ∀ (i : Nat) (u : Value), (vs j)[i]? = some u → w.cell? ⟨b, off + j * 6 + i, none⟩ = some u)
    (ih : ∀ (j : Nat) (t : KeyP), keys[j]? = some t → ∀ W, Below w.heap.size w W → Calls Tryz.prog 8 #[.agg (vs j).toArray, .agg #[.int .i64 x.uid, fv, .int .i64 x.day, .string ⟨x.text.toArray⟩], .int .i64 x.which, .agg #[.int .i64 x.many, .int .i64 x.greatest]] W fun e w' => e = .returned (.bool (holdsK x t)) ∧ Below W.heap.size W w')
    (w1 : World) {a b c d e f : Value} (hw : HoldW w w1 a b c d e f (.int .i64 x.uid) fv (.int .i64 x.day) (.string ⟨x.text.toArray⟩) (.int .i64 x.which) (.int .i64 x.many) (.int .i64 x.greatest)) :
    Calls Tryz.prog 21 #[.slice ka keys.length kc, .func (.func 23) #[] #[.pointer (some ⟨w.heap.size + 1, 0, none⟩), .pointer (some ⟨w.heap.size + 2, 0, none⟩), .pointer (some ⟨w.heap.size + 3, 0, none⟩)]] w1 fun e w' => e = .returned (.bool (keys.any fun t => !holdsK x t)) ∧ Below w1.heap.size w1 w' := by
  refine contK3_any ka kc keys vs (fun t => !holdsK x t) _ _ _ w1 hkl (fun j t hj => ?_) (fun j t W hj hb => ?_)
  · obtain ⟨b, off, e, hb, hc⟩ := hcell j t hj
    exact ⟨b, off, e, Nat.lt_of_lt_of_le hb hw.below.size, fun i u hu => (hw.below.cell (p := ⟨b, off + j * 6 + i, none⟩) hb).trans (hc i u hu)⟩
  · obtain ⟨a, b, c, d, e, f, hv⟩ := h6 j t hj
    refine ⟨⟨a, b, c, d, e, f, hv⟩, ?_⟩
    have h0 := ih j t hj
    rw [hv] at h0 ⊢
    have hwW := hw.below.trans (hb.mono hw.below.size)
    exact hclos3_any a b c d e f _ _ _ _ fv _ _ _ _ _ W (below_same hb hw.l) (below_same hb hw.n) (below_same hb hw.m) (holdsK x t) (fun W' hW' => h0 W' (hwW.trans (hW'.mono hwW.size)))
set_option maxRecDepth 100000 in
set_option maxHeartbeats 8000000 in
theorem hold_all (sv kv : Value) (name text : List UInt8) (n : Int) (fv : Value) (x : LetK) (w : World) :
    Calls Tryz.prog 8 #[.agg #[.int .i64 1, .string ⟨name.toArray⟩, .string ⟨text.toArray⟩, .int .i64 n, sv, kv], .agg #[.int .i64 x.uid, fv, .int .i64 x.day, .string ⟨x.text.toArray⟩], .int .i64 x.which, .agg #[.int .i64 x.many, .int .i64 x.greatest]] w fun e w' => e = .returned (.bool (true)) ∧ Below w.heap.size w w' := by
  have hw := holdW_at w (.int .i64 1) (.string ⟨name.toArray⟩) (.string ⟨text.toArray⟩) (.int .i64 n) sv kv (.int .i64 x.uid) fv (.int .i64 x.day) (.string ⟨x.text.toArray⟩) (.int .i64 x.which) (.int .i64 x.many) (.int .i64 x.greatest)
  obtain ⟨k0, k1, k2, k3, k4, k5⟩ := six_cells' hw.k
  obtain ⟨l0, l1, l2, l3⟩ := four_cells hw.l
  have n0 := one_cell hw.n
  obtain ⟨m0, m1⟩ := two_cells hw.m
  have Y := Lib.hid hw.below
  clear hw
  go_enter Tryz.func8, Tryz.ntmps8
  go_upto_region 1 with fail
  generalize (((w.alloc (.cells #[.int .i64 1, .string ⟨name.toArray⟩, .string ⟨text.toArray⟩, .int .i64 n, sv, kv] 33)).alloc (.cells #[.int .i64 x.uid, fv, .int .i64 x.day, .string ⟨x.text.toArray⟩] 25)).alloc (.cells #[.int .i64 x.which] 3)).alloc (.cells #[.int .i64 x.many, .int .i64 x.greatest] 29) = w1 at *
  go_wp2_with fail
  go_ret
  exact ⟨rfl, Y.out⟩

set_option maxRecDepth 100000 in
set_option maxHeartbeats 8000000 in
theorem hold_larger (sv kv : Value) (name text : List UInt8) (n : Int) (fv : Value) (x : LetK) (w : World) :
    Calls Tryz.prog 8 #[.agg #[.int .i64 6, .string ⟨name.toArray⟩, .string ⟨text.toArray⟩, .int .i64 n, sv, kv], .agg #[.int .i64 x.uid, fv, .int .i64 x.day, .string ⟨x.text.toArray⟩], .int .i64 x.which, .agg #[.int .i64 x.many, .int .i64 x.greatest]] w fun e w' => e = .returned (.bool (decide (n < (x.text.length : Int)))) ∧ Below w.heap.size w w' := by
  have hw := holdW_at w (.int .i64 6) (.string ⟨name.toArray⟩) (.string ⟨text.toArray⟩) (.int .i64 n) sv kv (.int .i64 x.uid) fv (.int .i64 x.day) (.string ⟨x.text.toArray⟩) (.int .i64 x.which) (.int .i64 x.many) (.int .i64 x.greatest)
  obtain ⟨k0, k1, k2, k3, k4, k5⟩ := six_cells' hw.k
  obtain ⟨l0, l1, l2, l3⟩ := four_cells hw.l
  have n0 := one_cell hw.n
  obtain ⟨m0, m1⟩ := two_cells hw.m
  have Y := Lib.hid hw.below
  clear hw
  go_enter Tryz.func8, Tryz.ntmps8
  go_upto_region 1 with fail
  generalize (((w.alloc (.cells #[.int .i64 6, .string ⟨name.toArray⟩, .string ⟨text.toArray⟩, .int .i64 n, sv, kv] 33)).alloc (.cells #[.int .i64 x.uid, fv, .int .i64 x.day, .string ⟨x.text.toArray⟩] 25)).alloc (.cells #[.int .i64 x.which] 3)).alloc (.cells #[.int .i64 x.many, .int .i64 x.greatest] 29) = w1 at *
  go_wp2_with fail
  go_ret
  exact ⟨rfl, Y.out⟩

set_option maxRecDepth 100000 in
set_option maxHeartbeats 8000000 in
theorem hold_smaller (sv kv : Value) (name text : List UInt8) (n : Int) (fv : Value) (x : LetK) (w : World) :
    Calls Tryz.prog 8 #[.agg #[.int .i64 7, .string ⟨name.toArray⟩, .string ⟨text.toArray⟩, .int .i64 n, sv, kv], .agg #[.int .i64 x.uid, fv, .int .i64 x.day, .string ⟨x.text.toArray⟩], .int .i64 x.which, .agg #[.int .i64 x.many, .int .i64 x.greatest]] w fun e w' => e = .returned (.bool (decide ((x.text.length : Int) < n))) ∧ Below w.heap.size w w' := by
  have hw := holdW_at w (.int .i64 7) (.string ⟨name.toArray⟩) (.string ⟨text.toArray⟩) (.int .i64 n) sv kv (.int .i64 x.uid) fv (.int .i64 x.day) (.string ⟨x.text.toArray⟩) (.int .i64 x.which) (.int .i64 x.many) (.int .i64 x.greatest)
  obtain ⟨k0, k1, k2, k3, k4, k5⟩ := six_cells' hw.k
  obtain ⟨l0, l1, l2, l3⟩ := four_cells hw.l
  have n0 := one_cell hw.n
  obtain ⟨m0, m1⟩ := two_cells hw.m
  have Y := Lib.hid hw.below
  clear hw
  go_enter Tryz.func8, Tryz.ntmps8
  go_upto_region 1 with fail
  generalize (((w.alloc (.cells #[.int .i64 7, .string ⟨name.toArray⟩, .string ⟨text.toArray⟩, .int .i64 n, sv, kv] 33)).alloc (.cells #[.int .i64 x.uid, fv, .int .i64 x.day, .string ⟨x.text.toArray⟩] 25)).alloc (.cells #[.int .i64 x.which] 3)).alloc (.cells #[.int .i64 x.many, .int .i64 x.greatest] 29) = w1 at *
  go_wp2_with fail
  go_ret
  exact ⟨rfl, Y.out⟩

set_option maxRecDepth 100000 in
set_option maxHeartbeats 8000000 in
theorem hold_before (sv kv : Value) (name text : List UInt8) (n : Int) (fv : Value) (x : LetK) (w : World) :
    Calls Tryz.prog 8 #[.agg #[.int .i64 8, .string ⟨name.toArray⟩, .string ⟨text.toArray⟩, .int .i64 n, sv, kv], .agg #[.int .i64 x.uid, fv, .int .i64 x.day, .string ⟨x.text.toArray⟩], .int .i64 x.which, .agg #[.int .i64 x.many, .int .i64 x.greatest]] w fun e w' => e = .returned (.bool (decide (x.day < n))) ∧ Below w.heap.size w w' := by
  have hw := holdW_at w (.int .i64 8) (.string ⟨name.toArray⟩) (.string ⟨text.toArray⟩) (.int .i64 n) sv kv (.int .i64 x.uid) fv (.int .i64 x.day) (.string ⟨x.text.toArray⟩) (.int .i64 x.which) (.int .i64 x.many) (.int .i64 x.greatest)
  obtain ⟨k0, k1, k2, k3, k4, k5⟩ := six_cells' hw.k
  obtain ⟨l0, l1, l2, l3⟩ := four_cells hw.l
  have n0 := one_cell hw.n
  obtain ⟨m0, m1⟩ := two_cells hw.m
  have Y := Lib.hid hw.below
  clear hw
  go_enter Tryz.func8, Tryz.ntmps8
  go_upto_region 1 with fail
  generalize (((w.alloc (.cells #[.int .i64 8, .string ⟨name.toArray⟩, .string ⟨text.toArray⟩, .int .i64 n, sv, kv] 33)).alloc (.cells #[.int .i64 x.uid, fv, .int .i64 x.day, .string ⟨x.text.toArray⟩] 25)).alloc (.cells #[.int .i64 x.which] 3)).alloc (.cells #[.int .i64 x.many, .int .i64 x.greatest] 29) = w1 at *
  go_wp2_with fail
  go_ret
  exact ⟨rfl, Y.out⟩

set_option maxRecDepth 100000 in
set_option maxHeartbeats 8000000 in
theorem hold_on (sv kv : Value) (name text : List UInt8) (n : Int) (fv : Value) (x : LetK) (w : World) :
    Calls Tryz.prog 8 #[.agg #[.int .i64 9, .string ⟨name.toArray⟩, .string ⟨text.toArray⟩, .int .i64 n, sv, kv], .agg #[.int .i64 x.uid, fv, .int .i64 x.day, .string ⟨x.text.toArray⟩], .int .i64 x.which, .agg #[.int .i64 x.many, .int .i64 x.greatest]] w fun e w' => e = .returned (.bool (decide (x.day = n))) ∧ Below w.heap.size w w' := by
  have hw := holdW_at w (.int .i64 9) (.string ⟨name.toArray⟩) (.string ⟨text.toArray⟩) (.int .i64 n) sv kv (.int .i64 x.uid) fv (.int .i64 x.day) (.string ⟨x.text.toArray⟩) (.int .i64 x.which) (.int .i64 x.many) (.int .i64 x.greatest)
  obtain ⟨k0, k1, k2, k3, k4, k5⟩ := six_cells' hw.k
  obtain ⟨l0, l1, l2, l3⟩ := four_cells hw.l
  have n0 := one_cell hw.n
  obtain ⟨m0, m1⟩ := two_cells hw.m
  have Y := Lib.hid hw.below
  clear hw
  go_enter Tryz.func8, Tryz.ntmps8
  go_upto_region 1 with fail
  generalize (((w.alloc (.cells #[.int .i64 9, .string ⟨name.toArray⟩, .string ⟨text.toArray⟩, .int .i64 n, sv, kv] 33)).alloc (.cells #[.int .i64 x.uid, fv, .int .i64 x.day, .string ⟨x.text.toArray⟩] 25)).alloc (.cells #[.int .i64 x.which] 3)).alloc (.cells #[.int .i64 x.many, .int .i64 x.greatest] 29) = w1 at *
  go_wp2_with fail
  go_ret
  exact ⟨rfl, Y.out⟩

set_option maxRecDepth 100000 in
set_option maxHeartbeats 8000000 in
theorem hold_since (sv kv : Value) (name text : List UInt8) (n : Int) (fv : Value) (x : LetK) (w : World) :
    Calls Tryz.prog 8 #[.agg #[.int .i64 10, .string ⟨name.toArray⟩, .string ⟨text.toArray⟩, .int .i64 n, sv, kv], .agg #[.int .i64 x.uid, fv, .int .i64 x.day, .string ⟨x.text.toArray⟩], .int .i64 x.which, .agg #[.int .i64 x.many, .int .i64 x.greatest]] w fun e w' => e = .returned (.bool (decide (n ≤ x.day))) ∧ Below w.heap.size w w' := by
  have hw := holdW_at w (.int .i64 10) (.string ⟨name.toArray⟩) (.string ⟨text.toArray⟩) (.int .i64 n) sv kv (.int .i64 x.uid) fv (.int .i64 x.day) (.string ⟨x.text.toArray⟩) (.int .i64 x.which) (.int .i64 x.many) (.int .i64 x.greatest)
  obtain ⟨k0, k1, k2, k3, k4, k5⟩ := six_cells' hw.k
  obtain ⟨l0, l1, l2, l3⟩ := four_cells hw.l
  have n0 := one_cell hw.n
  obtain ⟨m0, m1⟩ := two_cells hw.m
  have Y := Lib.hid hw.below
  clear hw
  go_enter Tryz.func8, Tryz.ntmps8
  go_upto_region 1 with fail
  generalize (((w.alloc (.cells #[.int .i64 10, .string ⟨name.toArray⟩, .string ⟨text.toArray⟩, .int .i64 n, sv, kv] 33)).alloc (.cells #[.int .i64 x.uid, fv, .int .i64 x.day, .string ⟨x.text.toArray⟩] 25)).alloc (.cells #[.int .i64 x.which] 3)).alloc (.cells #[.int .i64 x.many, .int .i64 x.greatest] 29) = w1 at *
  go_wp2_with fail
  go_ret
  exact ⟨rfl, Y.out⟩

set_option maxRecDepth 100000 in
set_option maxHeartbeats 8000000 in
theorem hold_flag (sv kv : Value) (name text : List UInt8) (n : Int) (fv : Value) (x : LetK) (w : World) (hf : SRow w fv x.flags) (hl : x.flags.length ≤ 1000000) :
    Calls Tryz.prog 8 #[.agg #[.int .i64 2, .string ⟨name.toArray⟩, .string ⟨text.toArray⟩, .int .i64 n, sv, kv], .agg #[.int .i64 x.uid, fv, .int .i64 x.day, .string ⟨x.text.toArray⟩], .int .i64 x.which, .agg #[.int .i64 x.many, .int .i64 x.greatest]] w fun e w' => e = .returned (.bool (decide (name ∈ x.flags))) ∧ Below w.heap.size w w' := by
  have hw := holdW_at w (.int .i64 2) (.string ⟨name.toArray⟩) (.string ⟨text.toArray⟩) (.int .i64 n) sv kv (.int .i64 x.uid) fv (.int .i64 x.day) (.string ⟨x.text.toArray⟩) (.int .i64 x.which) (.int .i64 x.many) (.int .i64 x.greatest)
  have cC := contains_any fv x.flags name _ (hf.below hw.below) hl
  clear hf
  obtain ⟨k0, k1, k2, k3, k4, k5⟩ := six_cells' hw.k
  obtain ⟨l0, l1, l2, l3⟩ := four_cells hw.l
  have n0 := one_cell hw.n
  obtain ⟨m0, m1⟩ := two_cells hw.m
  have Y := Lib.hid hw.below
  clear hw
  go_enter Tryz.func8, Tryz.ntmps8
  go_upto_region 1 with fail
  generalize (((w.alloc (.cells #[.int .i64 2, .string ⟨name.toArray⟩, .string ⟨text.toArray⟩, .int .i64 n, sv, kv] 33)).alloc (.cells #[.int .i64 x.uid, fv, .int .i64 x.day, .string ⟨x.text.toArray⟩] 25)).alloc (.cells #[.int .i64 x.which] 3)).alloc (.cells #[.int .i64 x.many, .int .i64 x.greatest] 29) = w1 at *
  go_wp2_with (go_at_call 13; go_loud (((with_reducible refine cC.mono ?_); rintro e w2 ⟨rfl, hw2⟩; rw [← hw2]; clear hw2)))
  go_ret
  exact ⟨rfl, Y.out⟩

set_option maxRecDepth 100000 in
set_option maxHeartbeats 8000000 in
theorem hold_text (sv kv : Value) (name text : List UInt8) (n : Int) (fv : Value) (x : LetK) (w : World) (hx : x.text.length ≤ 9000) (ht : text.length ≤ 2000000) (hM : MaxL w) :
    Calls Tryz.prog 8 #[.agg #[.int .i64 5, .string ⟨name.toArray⟩, .string ⟨text.toArray⟩, .int .i64 n, sv, kv], .agg #[.int .i64 x.uid, fv, .int .i64 x.day, .string ⟨x.text.toArray⟩], .int .i64 x.which, .agg #[.int .i64 x.many, .int .i64 x.greatest]] w fun e w' => e = .returned (.bool (hasK x.text text)) ∧ Below w.heap.size w w' := by
  have hw := holdW_at w (.int .i64 5) (.string ⟨name.toArray⟩) (.string ⟨text.toArray⟩) (.int .i64 n) sv kv (.int .i64 x.uid) fv (.int .i64 x.day) (.string ⟨x.text.toArray⟩) (.int .i64 x.which) (.int .i64 x.many) (.int .i64 x.greatest)
  have cC := hasK_any x.text text _ (by omega) (by omega) (MaxL.below hM hw.below)
  generalize hasK x.text text = r at *
  clear hM
  obtain ⟨k0, k1, k2, k3, k4, k5⟩ := six_cells' hw.k
  obtain ⟨l0, l1, l2, l3⟩ := four_cells hw.l
  have n0 := one_cell hw.n
  obtain ⟨m0, m1⟩ := two_cells hw.m
  have Y := Lib.hid hw.below
  clear hw
  go_enter Tryz.func8, Tryz.ntmps8
  go_upto_region 1 with fail
  generalize (((w.alloc (.cells #[.int .i64 5, .string ⟨name.toArray⟩, .string ⟨text.toArray⟩, .int .i64 n, sv, kv] 33)).alloc (.cells #[.int .i64 x.uid, fv, .int .i64 x.day, .string ⟨x.text.toArray⟩] 25)).alloc (.cells #[.int .i64 x.which] 3)).alloc (.cells #[.int .i64 x.many, .int .i64 x.greatest] 29) = w1 at *
  go_wp2_with (go_at_call 18; go_loud (((with_reducible refine cC.mono ?_); rintro e w2 ⟨rfl, h⟩; have y := Y.out.trans (h.mono Y.out.size))))
  go_ret
  exact ⟨rfl, y⟩

set_option maxRecDepth 100000 in
set_option maxHeartbeats 8000000 in
theorem hold_body (sv kv : Value) (name text : List UInt8) (n : Int) (fv : Value) (x : LetK) (w : World) (hx : x.text.length ≤ 9000) (ht : text.length ≤ 2000000) (hM : MaxL w) :
    Calls Tryz.prog 8 #[.agg #[.int .i64 4, .string ⟨name.toArray⟩, .string ⟨text.toArray⟩, .int .i64 n, sv, kv], .agg #[.int .i64 x.uid, fv, .int .i64 x.day, .string ⟨x.text.toArray⟩], .int .i64 x.which, .agg #[.int .i64 x.many, .int .i64 x.greatest]] w fun e w' => e = .returned (.bool (hasK (splitHd x.text).2 text)) ∧ Below w.heap.size w w' := by
  have hw := holdW_at w (.int .i64 4) (.string ⟨name.toArray⟩) (.string ⟨text.toArray⟩) (.int .i64 n) sv kv (.int .i64 x.uid) fv (.int .i64 x.day) (.string ⟨x.text.toArray⟩) (.int .i64 x.which) (.int .i64 x.many) (.int .i64 x.greatest)
  have cS := splitHd_any x.text _ (by omega) (MaxL.below hM hw.below)
  have cH := fun W hW => hasK_any (splitHd x.text).2 text W (by have := splitHd_len2 x.text; omega) (by omega) hW
  have HM := Lib.hid (MaxL.below hM hw.below)
  generalize hasK (splitHd x.text).2 text = r at *
  generalize (splitHd x.text).2 = B at *
  generalize (splitHd x.text).1 = A at *
  clear hM
  obtain ⟨k0, k1, k2, k3, k4, k5⟩ := six_cells' hw.k
  obtain ⟨l0, l1, l2, l3⟩ := four_cells hw.l
  have n0 := one_cell hw.n
  obtain ⟨m0, m1⟩ := two_cells hw.m
  have Y := Lib.hid hw.below
  have KK := Lib.hid hw.k
  clear hw
  go_enter Tryz.func8, Tryz.ntmps8
  go_upto_region 1 with fail
  generalize (((w.alloc (.cells #[.int .i64 4, .string ⟨name.toArray⟩, .string ⟨text.toArray⟩, .int .i64 n, sv, kv] 33)).alloc (.cells #[.int .i64 x.uid, fv, .int .i64 x.day, .string ⟨x.text.toArray⟩] 25)).alloc (.cells #[.int .i64 x.which] 3)).alloc (.cells #[.int .i64 x.many, .int .i64 x.greatest] 29) = w1 at *
  go_wp2_with (first
    | (go_at_call 19; go_loud (((with_reducible refine cS.mono ?_); rintro e w2 ⟨rfl, h⟩; have y := Y.out.trans (h.mono Y.out.size); obtain ⟨-, -, k2, -, -, -⟩ := six_cells' (below_same h KK.out); have cH1 := cH w2 (MaxL.below HM.out h))))
    | (go_at_call 18; go_loud (((with_reducible refine cH1.mono ?_); rintro e w3 ⟨rfl, h3⟩; have y3 := y.trans (h3.mono y.size)))))
  go_ret
  exact ⟨rfl, y3⟩

set_option maxRecDepth 100000 in
set_option maxHeartbeats 8000000 in
theorem hold_uids (kv : Value) (name text : List UInt8) (n : Int) (fv : Value) (x : LetK) (w : World) (set : List Rg) (sv : Value) (hs : RgRow w sv set) :
    Calls Tryz.prog 8 #[.agg #[.int .i64 11, .string ⟨name.toArray⟩, .string ⟨text.toArray⟩, .int .i64 n, sv, kv], .agg #[.int .i64 x.uid, fv, .int .i64 x.day, .string ⟨x.text.toArray⟩], .int .i64 x.which, .agg #[.int .i64 x.many, .int .i64 x.greatest]] w fun e w' => e = .returned (.bool (hasS set x.uid x.greatest)) ∧ Below w.heap.size w w' := by
  have hw := holdW_at w (.int .i64 11) (.string ⟨name.toArray⟩) (.string ⟨text.toArray⟩) (.int .i64 n) sv kv (.int .i64 x.uid) fv (.int .i64 x.day) (.string ⟨x.text.toArray⟩) (.int .i64 x.which) (.int .i64 x.many) (.int .i64 x.greatest)
  have cC := hasS_any sv set x.uid x.greatest _ (hs.below hw.below)
  generalize hasS set x.uid x.greatest = r at *
  clear hs
  obtain ⟨k0, k1, k2, k3, k4, k5⟩ := six_cells' hw.k
  obtain ⟨l0, l1, l2, l3⟩ := four_cells hw.l
  have n0 := one_cell hw.n
  obtain ⟨m0, m1⟩ := two_cells hw.m
  have Y := Lib.hid hw.below
  clear hw
  go_enter Tryz.func8, Tryz.ntmps8
  go_upto_region 1 with fail
  generalize (((w.alloc (.cells #[.int .i64 11, .string ⟨name.toArray⟩, .string ⟨text.toArray⟩, .int .i64 n, sv, kv] 33)).alloc (.cells #[.int .i64 x.uid, fv, .int .i64 x.day, .string ⟨x.text.toArray⟩] 25)).alloc (.cells #[.int .i64 x.which] 3)).alloc (.cells #[.int .i64 x.many, .int .i64 x.greatest] 29) = w1 at *
  go_wp2_with (go_at_call 20; go_loud (((with_reducible refine cC.mono ?_); rintro e w2 ⟨rfl, h⟩; have y := Y.out.trans (h.mono Y.out.size))))
  go_ret
  exact ⟨rfl, y⟩

set_option maxRecDepth 100000 in
set_option maxHeartbeats 8000000 in
theorem hold_numbers (kv : Value) (name text : List UInt8) (n : Int) (fv : Value) (x : LetK) (w : World) (set : List Rg) (sv : Value) (hs : RgRow w sv set) :
    Calls Tryz.prog 8 #[.agg #[.int .i64 12, .string ⟨name.toArray⟩, .string ⟨text.toArray⟩, .int .i64 n, sv, kv], .agg #[.int .i64 x.uid, fv, .int .i64 x.day, .string ⟨x.text.toArray⟩], .int .i64 x.which, .agg #[.int .i64 x.many, .int .i64 x.greatest]] w fun e w' => e = .returned (.bool (hasS set x.which x.many)) ∧ Below w.heap.size w w' := by
  have hw := holdW_at w (.int .i64 12) (.string ⟨name.toArray⟩) (.string ⟨text.toArray⟩) (.int .i64 n) sv kv (.int .i64 x.uid) fv (.int .i64 x.day) (.string ⟨x.text.toArray⟩) (.int .i64 x.which) (.int .i64 x.many) (.int .i64 x.greatest)
  have cC := hasS_any sv set x.which x.many _ (hs.below hw.below)
  generalize hasS set x.which x.many = r at *
  clear hs
  obtain ⟨k0, k1, k2, k3, k4, k5⟩ := six_cells' hw.k
  obtain ⟨l0, l1, l2, l3⟩ := four_cells hw.l
  have n0 := one_cell hw.n
  obtain ⟨m0, m1⟩ := two_cells hw.m
  have Y := Lib.hid hw.below
  clear hw
  go_enter Tryz.func8, Tryz.ntmps8
  go_upto_region 1 with fail
  generalize (((w.alloc (.cells #[.int .i64 12, .string ⟨name.toArray⟩, .string ⟨text.toArray⟩, .int .i64 n, sv, kv] 33)).alloc (.cells #[.int .i64 x.uid, fv, .int .i64 x.day, .string ⟨x.text.toArray⟩] 25)).alloc (.cells #[.int .i64 x.which] 3)).alloc (.cells #[.int .i64 x.many, .int .i64 x.greatest] 29) = w1 at *
  go_wp2_with (go_at_call 20; go_loud (((with_reducible refine cC.mono ?_); rintro e w2 ⟨rfl, h⟩; have y := Y.out.trans (h.mono Y.out.size))))
  go_ret
  exact ⟨rfl, y⟩

end Go.Proofs.YtmhidmkomljjjaaGreatDoor
