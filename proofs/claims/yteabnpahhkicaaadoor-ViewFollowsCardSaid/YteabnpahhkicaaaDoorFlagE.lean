/- The walks over flags.Has, Print, Not: each returns what its plain function says. Conditions: flags.system lies as the program's text lays it. -/
import Derived.Test.YteabnpahhkicaaaDoorFlagD
import Derived.Lib.Join
namespace Go.Proofs.YteabnpahhkicaaaDoor
open Go.RowKit Go.Shelf Go.Sort

theorem map_getD (l : List (List UInt8)) {j : Nat} {t : List UInt8} (h : l[j]? = some t) : (l.map fun t => (⟨t.toArray⟩ : ByteArray)).getD j ByteArray.empty = ⟨t.toArray⟩ := by
  rw [List.getD, List.getElem?_map, h]; rfl
theorem contains_map (l : List (List UInt8)) (t : List UInt8) : Lib.containsS (l.map fun t => (⟨t.toArray⟩ : ByteArray)) ⟨t.toArray⟩ = decide (t ∈ l) := by
  rw [Bool.eq_iff_iff, Lib.containsS_iff, decide_eq_true_eq, List.mem_map]
  constructor
  · rintro ⟨x, hx, e⟩
    rw [← bytes_inj e]; exact hx
  · intro h
    exact ⟨t, h, rfl⟩
theorem contains_any (v : Value) (l : List (List UInt8)) (t : List UInt8) (w : World) (hv : SRow w v l) (hl : l.length ≤ 1000000) :
    Calls Tryd.prog 32 #[v, .string ⟨t.toArray⟩] w fun e w' => e = .returned (.bool (decide (t ∈ l))) ∧ w = w' := by
  obtain ⟨ao, cap, rfl, hcap, _, hcell⟩ := hv
  cases l with
  | nil => exact (Tryd.slices_Contains_string_empty ao cap ⟨t.toArray⟩ w).mono (by rintro e w' ⟨rfl, rfl⟩; exact ⟨rfl, rfl⟩)
  | cons x r =>
    obtain ⟨b, off, rfl, _, _⟩ := hcell 0 x rfl
    have h := Tryd.slices_Contains_string b off (x :: r).length cap ((x :: r).map fun t => ⟨t.toArray⟩) ⟨t.toArray⟩ w (by simp) (by omega) (fun j hj => by
      obtain ⟨u, hu⟩ : ∃ u, (x :: r)[j]? = some u := ⟨(x :: r)[j]'(by simpa using hj), List.getElem?_eq_getElem _⟩
      obtain ⟨b', off', e1, _, e3⟩ := hcell j u hu
      cases e1
      rw [e3, map_getD _ hu])
    refine h.mono ?_
    rw [List.take_of_length_le (by simp), contains_map]
    rintro e w' ⟨rfl, rfl⟩
    exact ⟨rfl, rfl⟩

/-- whether a flag is one of some -/
def hasF (l : List (List UInt8)) (s : List UInt8) : Bool := match nameF s with
  | .inl _ => false
  | .inr t => decide (t ∈ l)

/-- flags as they are written -/
def printFl (l : List (List UInt8)) : List UInt8 := [40] ++ Lib.join l [32] ++ [41]
theorem join_le : ∀ (l : List (List UInt8)), (∀ t ∈ l, t.length ≤ 100000) → (Lib.join l [32]).length ≤ l.length * 100001
  | [], _ => by simp [Lib.join]
  | [x], h => by
    have := h x (by simp)
    rw [Lib.join_one]
    simp only [List.length_cons, List.length_nil]; omega
  | x :: y :: r, h => by
    have h1 := h x (by simp)
    have ih := join_le (y :: r) (fun t ht => h t (List.mem_cons_of_mem _ ht))
    have e : Lib.join (x :: y :: r) [32] = x ++ [32] ++ Lib.join (y :: r) [32] := by simp [Lib.join, List.intercalate]
    rw [e, List.length_append, List.length_append]
    simp only [List.length_cons, List.length_nil] at ih ⊢
    omega

/-- the first ones without the others -/
def notF (a b : List (List UInt8)) : List (List UInt8) := a.filter fun s => !decide (s ∈ b)
theorem SRow.belowAt {w w' : World} {B : Nat} {v : Value} {l : List (List UInt8)} (h : SRow w v l) (hB : w.heap.size ≤ B) (hb : Below B w w') : SRow w' v l := h.below (hb.mono hB)
set_option maxRecDepth 100000 in
set_option maxHeartbeats 2000000 in
theorem not1_any (bv : Value) (b : List (List UInt8)) (s : List UInt8) (B : Nat) (W : World) (hc : W.cell? ⟨B, 0, none⟩ = some bv) (hv : SRow W bv b) (hl : b.length ≤ 1000000) :
    Calls Tryd.prog 39 #[.string ⟨s.toArray⟩, .pointer (some ⟨B, 0, none⟩)] W fun e w' => e = .returned (.bool (decide (s ∈ b))) ∧ W = w' := by
  have cC := contains_any bv b s W hv hl
  clear hv
  go_enter Tryd.func39, Tryd.ntmps39
  go_wp2_with (go_at_call 32; with_reducible refine cC.mono ?_; rintro e w2 ⟨rfl, hw⟩; rw [← hw]; clear hw)
  go_ret
  exact ⟨rfl, rfl⟩
set_option maxRecDepth 100000 in
set_option maxHeartbeats 2000000 in
theorem del_none (a : Option Addr) (c : Nat) (fv : Value) (w : World) :
    Calls Tryd.prog 38 #[.slice a 0 c, fv] w fun e w' => e = .returned (.slice a 0 c) ∧ w = w' := by
  have cI := Tryd.slices_IndexFunc_empty (α := List UInt8) a c fv w
  go_enter Tryd.func38, Tryd.ntmps38
  go_wp2_with (go_at_call 42; with_reducible refine cI.mono ?_; rintro e w2 ⟨rfl, hw⟩; rw [hw]; clear hw)
  go_ret
  exact ⟨rfl, rfl⟩
/-- the deletion from a row that the call owns -/
theorem del_any (a b : List (List UInt8)) (bv ov : Value) (B Bx : Nat) (w : World) (hown : w.ownsRow B 9 1 ov a.length (a.map encStr)) (hBx : Bx < B) (hBw : B ≤ w.heap.size) (hc : w.cell? ⟨Bx, 0, none⟩ = some bv) (w0 : World) (hv : SRow w0 bv b) (h0 : w0.heap.size ≤ B) (hb0 : Below w0.heap.size w0 w) (hal : a.length ≤ 1000000) (hbl : b.length ≤ 1000000) :
    Calls Tryd.prog 38 #[ov, .func (.func 39) #[] #[.pointer (some ⟨Bx, 0, none⟩)]] w fun e w' => ∃ r, e = .returned r ∧ TRow w' r (notF a b) ∧ w.grownBy w' ov.ownBlock := by
  rcases hown.2 with ⟨rfl, h0'⟩ | ⟨g, cap, cur, rfl, hbase, hb, h1, h2, h3, h4⟩
  · have : a = [] := List.eq_nil_of_length_eq_zero h0'
    subst this
    refine (del_none none 0 _ w).mono ?_
    rintro e w' ⟨rfl, rfl⟩
    exact ⟨_, rfl, TRow.nil _, World.grownBy.refl _ _⟩
  · have hH : Holds encStr w g 0 a.toArray := holds_of_block hb (by simpa using h4)
    have hgl := (Array.getElem?_eq_some_iff.1 hb).1
    have hp : PredAt Tryd.prog 39 #[.pointer (some ⟨Bx, 0, none⟩)] encStr (fun s => decide (s ∈ b)) w := fun W x hW =>
      (not1_any bv b x Bx W ((hW.cell (p := ⟨Bx, 0, none⟩) (by show Bx < _; omega)).trans hc) ((hv.below hb0).below hW) hbl).mono (by rintro e w' ⟨rfl, rfl⟩; exact ⟨rfl, 0, rfl⟩)
    have hpo : PredOver Tryd.prog 39 #[.pointer (some ⟨Bx, 0, none⟩)] encStr (fun s => decide (s ∈ b)) g 0 a.toArray.size w := fun n os dk x _ => by
      have hW : Below B w (sortWorld encStr w g 0 n dk os) := (Below.refl B w).grown (grownBy_sorted dk) hBw (fun k e => by cases e; exact hbase)
      exact (not1_any bv b x Bx _ ((hW.cell (p := ⟨Bx, 0, none⟩) hBx).trans hc) (hv.below (hb0.trans (hW.mono h0))) hbl).mono (by rintro e w' ⟨rfl, rfl⟩; exact ⟨rfl, 0, rfl⟩)
    refine (Tryd.slices_DeleteFunc encStr encStr_one (fun s => decide (s ∈ b)) 39 #[.pointer (some ⟨Bx, 0, none⟩)] (enters_of Tryd.func39 (by kernel_rfl) rfl) [] (fun _ => by kernel_rfl) g 0 cap a.toArray w hp hpo hH (by simp; omega) (by simpa using h1)).mono ?_
    rintro e w' ⟨rfl, q, rfl⟩
    have ef : (a.toArray.toList.filter fun x => !decide (x ∈ b)) = notF a b := by simp [notF]
    rw [ef]
    have hle : (notF a b).length ≤ a.length := List.length_filter_le _ _
    have hgr : w.grownBy (grow (putRow encStr (Sort.ahead w q) g 0 (notF a b ++ List.replicate (a.toArray.size - (notF a b).length) []).toArray) #[]) (some g) := grownBy_sorted _
    have ho := ownsRow_sorted (ss := a) (ts := notF a b ++ List.replicate (a.toArray.size - (notF a b).length) []) (n := q) (os := #[]) (by simp; omega) hbase hb h1 h2 h3
    rw [grow_empty] at hgr ho
    refine ⟨_, rfl, ⟨⟨_, cap, rfl, by omega, ⟨by unfold maxLen at h2; omega, fun h => by cases h⟩, fun j t hj => ?_⟩, stag_cut (stag_owns ho)⟩, hgr⟩
    have hjl : j < (notF a b).length := (List.getElem?_eq_some_iff.1 hj).1
    refine ⟨g, 0, rfl, Nat.lt_of_lt_of_le hgl hgr.size, ?_⟩
    rw [Nat.zero_add]
    refine owns_cell ho ?_
    rw [List.getElem?_map, List.getElem?_append_left hjl, hj]
    rfl
/-- a copy of a row of texts -/
theorem clone_any (v : Value) (a : List (List UInt8)) (w : World) (hv : SRow w v a) (hl : a.length ≤ 1000000) :
    Calls Tryd.prog 24 #[v] w fun e w' => ∃ r, e = .returned r ∧ w'.ownsRow w.heap.size 9 1 r a.length (a.map encStr) ∧ Below w.heap.size w w' := by
  obtain ⟨ao, cap, rfl, hcap, _, hcell⟩ := hv
  cases a with
  | nil =>
    cases ao with
    | none =>
      refine (Tryd.slices_Clone_string_nil 0 cap w).mono ?_
      rintro e w' ⟨rfl, rfl⟩
      exact ⟨_, rfl, World.ownsRow_nil _ _ _ _, Below.refl _ _⟩
    | some p =>
      refine (Tryd.slices_Clone_string_zero p cap w).mono ?_
      rintro e w' ⟨v', rfl, h1, _, h2⟩
      exact ⟨_, rfl, h1, h2⟩
  | cons x r =>
    obtain ⟨b, off, rfl, hb, _⟩ := hcell 0 x rfl
    refine (Tryd.slices_Clone_string b off (x :: r).length cap ((x :: r).map fun t => ⟨t.toArray⟩) w (by simp) (by omega) (fun j hj => by
      obtain ⟨u, hu⟩ : ∃ u, (x :: r)[j]? = some u := ⟨(x :: r)[j]'(by simpa using hj), List.getElem?_eq_getElem _⟩
      obtain ⟨b', off', e1, _, e3⟩ := hcell j u hu
      cases e1
      rw [e3, map_getD _ hu])).mono ?_
    rw [List.take_of_length_le (by simp)]
    rintro e w' ⟨v', rfl, h1, _, h2⟩
    refine ⟨_, rfl, ?_, h2⟩
    rw [List.map_map] at h1
    exact h1

set_option maxRecDepth 100000 in
set_option maxHeartbeats 2000000 in
theorem not_any (av bv : Value) (a b : List (List UInt8)) (w : World) (ha : SRow w av a) (hb : SRow w bv b) (hal : a.length ≤ 1000000) (hbl : b.length ≤ 1000000) :
    Calls Tryd.prog 30 #[av, bv] w fun e w' => ∃ r, e = .returned r ∧ TRow w' r (notF a b) ∧ Below w.heap.size w w' := by
  have y0 := (Below.refl w.heap.size w).alloc (Nat.le_refl _) (.cells #[bv] 34)
  have x0 := World.heap_alloc_new w (.cells #[bv] 34)
  have c0 : (w.alloc (.cells #[bv] 34)).cell? ⟨w.heap.size, 0, none⟩ = some bv := by rw [Lib.cell_of_heap x0]; rfl
  have cK := clone_any av a _ (ha.below y0) hal
  have HB := Lib.hid hb
  clear ha hb x0
  obtain ⟨aa, an, ac, rfl⟩ : ∃ a n c, bv = .slice a n c := by
    obtain ⟨ao, cap, h, _⟩ := HB.out
    exact ⟨_, _, _, h⟩
  go_enter Tryd.func30, Tryd.ntmps30
  go_wp2_with (first
    | (go_at_call 24; with_reducible refine cK.mono ?_; rintro e w1 ⟨r, rfl, ho, h⟩; have cD := del_any a b (.slice aa an ac) r _ w.heap.size w1 ho (by rw [alloc_size]; exact Nat.lt_succ_self _) h.size (below_cell h c0) w HB.out (by rw [alloc_size]; exact Nat.le_succ _) (y0.trans (h.mono (by rw [alloc_size]; exact Nat.le_succ _))) hal hbl; have y := y0.trans (h.mono y0.size))
    | (go_at_call 38; go_loud (with_reducible refine cD.mono ?_; rintro e w2 ⟨r2, rfl, hr, g2⟩; have y := y.grown g2 y.size (fun j h => by have := (ho.lt j h).1; rw [alloc_size] at this; omega))))
  go_ret
  exact ⟨_, rfl, hr, y⟩
end Go.Proofs.YteabnpahhkicaaaDoor
