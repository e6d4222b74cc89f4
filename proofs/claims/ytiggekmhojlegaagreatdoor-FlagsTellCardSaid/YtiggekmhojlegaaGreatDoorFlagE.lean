/- The walks over flags.Has, Print, Not: each returns what its plain function says. Conditions: flags.system lies as the program's text lays it. -/
import Derived.Test.YtiggekmhojlegaaGreatDoorFlagD
namespace Go.Proofs.YtiggekmhojlegaaGreatDoor
open Go.RowKit Go.Shelf Go.Sort

theorem map_getD (l : List (List UInt8)) {j : Nat} {t : List UInt8} (h : l[j]? = some t) : (l.map fun t => (⟨t.toArray⟩ : ByteArray)).getD j ByteArray.empty = ⟨t.toArray⟩ := by
  rw [List.getD, List.getElem?_map, h]; rfl
theorem contains_map (l : List (List UInt8)) (t : List UInt8) : Lib.containsS (l.map fun t => (⟨t.toArray⟩ : ByteArray)) ⟨t.toArray⟩ = decide (t ∈ l) := by
  rw [Bool.eq_iff_iff, Lib.containsS_iff, decide_eq_true_eq, List.mem_map]
  constructor
  · rintro ⟨x, hx, e⟩
    rw [← bytes_inj e]; exact hx
  · intro h
    exact ⟨t, h, rfl⟩
theorem contains_any (v : Value) (l : List (List UInt8)) (t : List UInt8) (w : World) (hv : SRow w v l) (hl : l.length ≤ 1000000) :
    Calls Tryz.prog 36 #[v, .string ⟨t.toArray⟩] w fun e w' => e = .returned (.bool (decide (t ∈ l))) ∧ w = w' := by
  obtain ⟨ao, cap, rfl, hcap, _, hcell⟩ := hv
  cases l with
  | nil => exact (Tryz.slices_Contains_string_empty ao cap ⟨t.toArray⟩ w).mono (by rintro e w' ⟨rfl, rfl⟩; exact ⟨rfl, rfl⟩)
  | cons x r =>
    obtain ⟨b, off, rfl, _, _⟩ := hcell 0 x rfl
    have h := Tryz.slices_Contains_string b off (x :: r).length cap ((x :: r).map fun t => ⟨t.toArray⟩) ⟨t.toArray⟩ w (by simp) (by omega) (fun j hj => by
      obtain ⟨u, hu⟩ : ∃ u, (x :: r)[j]? = some u := ⟨(x :: r)[j]'(by simpa using hj), List.getElem?_eq_getElem _⟩
      obtain ⟨b', off', e1, _, e3⟩ := hcell j u hu
      cases e1
      rw [e3, map_getD _ hu])
    refine h.mono ?_
    rw [List.take_of_length_le (by simp), contains_map]
    rintro e w' ⟨rfl, rfl⟩
    exact ⟨rfl, rfl⟩

/-- whether a flag is one of some -/
def hasF (l : List (List UInt8)) (s : List UInt8) : Bool := match nameF s with
  | .inl _ => false
  | .inr t => decide (t ∈ l)
set_option maxRecDepth 100000 in
set_option maxHeartbeats 2000000 in
theorem has_any (v : Value) (l : List (List UInt8)) (s : List UInt8) (w : World) (hv : SRow w v l) (hl : l.length ≤ 1000000) (hs : s.length ≤ 1000000) (hG : FlagG w) :
    Calls Tryz.prog 17 #[v, .string ⟨s.toArray⟩] w fun e w' => e = .returned (.bool (hasF l s)) ∧ Below w.heap.size w w' := by
  have cN := fname_any s w hs hG
  have cC := fun t W h => contains_any v l t W h hl
  unfold hasF
  cases hn : nameF s with
  | inl n =>
    rw [hn] at cN
    have cN2 : Calls Tryz.prog 6 #[.string ⟨s.toArray⟩] w fun e w' => e = .returned (.tuple #[.string ⟨#[]⟩, .iface 24 (.int .i64 (n : Int))]) ∧ Below w.heap.size w w' := cN
    clear cN hn cC
    go_enter Tryz.func17, Tryz.ntmps17
    go_wp2_with (go_at_call 6; with_reducible refine cN2.mono ?_; rintro e w1 ⟨rfl, h⟩)
    go_ret
    exact ⟨rfl, h⟩
  | inr t =>
    rw [hn] at cN
    have cN2 : Calls Tryz.prog 6 #[.string ⟨s.toArray⟩] w fun e w' => e = .returned (.tuple #[.string ⟨t.toArray⟩, .nilIface]) ∧ Below w.heap.size w w' := cN
    have cC2 := cC t
    have HV := Lib.hid hv
    clear cN hn cC hv
    go_enter Tryz.func17, Tryz.ntmps17
    go_wp2_with (first
      | (go_at_call 6; with_reducible refine cN2.mono ?_; rintro e w1 ⟨rfl, h⟩)
      | (go_at_call 36; with_reducible refine (cC2 _ (HV.out.below h)).mono ?_; rintro e w2 ⟨rfl, hw⟩; rw [← hw]; clear hw))
    go_ret
    exact ⟨rfl, h⟩

/-- flags as they are written -/
def printFl (l : List (List UInt8)) : List UInt8 := [40] ++ Lib.join l [32] ++ [41]
theorem join_le : ∀ (l : List (List UInt8)), (∀ t ∈ l, t.length ≤ 100000) → (Lib.join l [32]).length ≤ l.length * 100001
  | [], _ => by simp [Lib.join]
  | [x], h => by
    have := h x (by simp)
    rw [Lib.join_one]
    simp only [List.length_cons, List.length_nil]; omega
  | x :: y :: r, h => by
    have h1 := h x (by simp)
    have ih := join_le (y :: r) (fun t ht => h t (List.mem_cons_of_mem _ ht))
    have e : Lib.join (x :: y :: r) [32] = x ++ [32] ++ Lib.join (y :: r) [32] := by simp [Lib.join, List.intercalate]
    rw [e, List.length_append, List.length_append]
    simp only [List.length_cons, List.length_nil] at ih ⊢
    omega
theorem join_any (v : Value) (l : List (List UInt8)) (w : World) (hv : SRow w v l) (hl : Short l) :
    Calls Tryz.prog 37 #[v, .string ⟨#[32]⟩] w fun e w' => e = .returned (.string ⟨(Lib.join l [32]).toArray⟩) ∧ Below w.heap.size w w' := by
  obtain ⟨ao, cap, rfl, hcap, _, hcell⟩ := hv
  have hj := join_le l hl.2
  have hll := hl.1
  have hmul : l.length * 100001 ≤ 100000 * 100001 := Nat.mul_le_mul_right _ hll
  cases l with
  | nil => exact (Tryz.strings_Join_none ao cap ⟨#[32]⟩ w).mono (by rintro e w' ⟨rfl, rfl⟩; exact ⟨rfl, Below.refl _ _⟩)
  | cons x r =>
    obtain ⟨b, off, rfl, hb, _⟩ := hcell 0 x rfl
    have e1 : ((x :: r).map fun t => (⟨t.toArray⟩ : ByteArray)).map (·.data.toList) = x :: r := by simp [Function.comp_def]
    have h := Tryz.strings_Join b off cap ((x :: r).map fun t => ⟨t.toArray⟩) ⟨#[32]⟩ w (fun j y hy => by
      rw [List.getElem?_map] at hy
      obtain ⟨u, hu, rfl⟩ := Option.map_eq_some_iff.1 hy
      obtain ⟨b', off', e1, _, e3⟩ := hcell j u hu
      cases e1
      exact e3) hb (by simp only [List.length_map]; omega) (by simpa using hcap) (by rw [e1]; show (Lib.join (x :: r) [32]).length ≤ _; omega)
    rw [e1] at h
    simpa using h
set_option maxRecDepth 100000 in
set_option maxHeartbeats 2000000 in
theorem printFl_any (v : Value) (l : List (List UInt8)) (w : World) (hv : SRow w v l) (hl : Short l) :
    Calls Tryz.prog 15 #[v] w fun e w' => e = .returned (.string ⟨(printFl l).toArray⟩) ∧ Below w.heap.size w w' := by
  have cJ := join_any v l w hv hl
  have hj := join_le l hl.2
  have hmul : l.length * 100001 ≤ 100000 * 100001 := Nat.mul_le_mul_right _ hl.1
  unfold printFl
  generalize Lib.join l [32] = J at *
  have hJ : J.length ≤ 10000100000 := by omega
  obtain ⟨q1, hq1⟩ : ∃ q1, q1 = [40] ++ J := ⟨_, rfl⟩
  obtain ⟨q2, hq2⟩ : ∃ q2, q2 = q1 ++ [41] := ⟨_, rfl⟩
  have a1 : (⟨#[40]⟩ : ByteArray) ++ ⟨J.toArray⟩ = ⟨q1.toArray⟩ := by rw [hq1]; exact text_cat _ _
  have a2 : (⟨q1.toArray⟩ : ByteArray) ++ ⟨#[41]⟩ = ⟨q2.toArray⟩ := by rw [hq2]; exact text_cat _ _
  rw [← hq1, ← hq2]
  have l1 : q1.length ≤ 10000100001 := by rw [hq1, List.length_append]; show 1 + _ ≤ _; omega
  have tJ := text_size J
  have t1 := text_size q1
  clear hq1 hq2 hj hmul hl hv
  go_enter Tryz.func15, Tryz.ntmps15
  go_wp2_with (go_at_call 37; with_reducible refine cJ.mono ?_; rintro e w1 ⟨rfl, h⟩)
  go_ret
  exact ⟨rfl, h⟩

/-- the first ones without the others -/
def notF (a b : List (List UInt8)) : List (List UInt8) := a.filter fun s => !decide (s ∈ b)
theorem SRow.belowAt {w w' : World} {B : Nat} {v : Value} {l : List (List UInt8)} (h : SRow w v l) (hB : w.heap.size ≤ B) (hb : Below B w w') : SRow w' v l := h.below (hb.mono hB)
set_option maxRecDepth 100000 in
set_option maxHeartbeats 2000000 in
theorem not1_any (bv : Value) (b : List (List UInt8)) (s : List UInt8) (B : Nat) (W : World) (hc : W.cell? ⟨B, 0, none⟩ = some bv) (hv : SRow W bv b) (hl : b.length ≤ 1000000) :
    Calls Tryz.prog 35 #[.string ⟨s.toArray⟩, .pointer (some ⟨B, 0, none⟩)] W fun e w' => e = .returned (.bool (decide (s ∈ b))) ∧ W = w' := by
  have cC := contains_any bv b s W hv hl
  clear hv
  go_enter Tryz.func35, Tryz.ntmps35
  go_wp2_with (go_at_call 36; with_reducible refine cC.mono ?_; rintro e w2 ⟨rfl, hw⟩; rw [← hw]; clear hw)
  go_ret
  exact ⟨rfl, rfl⟩
set_option maxRecDepth 100000 in
set_option maxHeartbeats 2000000 in
theorem del_none (a : Option Addr) (c : Nat) (fv : Value) (w : World) :
    Calls Tryz.prog 33 #[.slice a 0 c, fv] w fun e w' => e = .returned (.slice a 0 c) ∧ w = w' := by
  have cI := Tryz.slices_IndexFunc_empty (α := List UInt8) a c fv w
  go_enter Tryz.func33, Tryz.ntmps33
  go_wp2_with (go_at_call 22; with_reducible refine cI.mono ?_; rintro e w2 ⟨rfl, hw⟩; rw [hw]; clear hw)
  go_ret
  exact ⟨rfl, rfl⟩
/-- the deletion from a row that the call owns -/
theorem del_any (a b : List (List UInt8)) (bv ov : Value) (B Bx : Nat) (w : World) (hown : w.ownsRow B 9 1 ov a.length (a.map encStr)) (hBx : Bx < B) (hBw : B ≤ w.heap.size) (hc : w.cell? ⟨Bx, 0, none⟩ = some bv) (w0 : World) (hv : SRow w0 bv b) (h0 : w0.heap.size ≤ B) (hb0 : Below w0.heap.size w0 w) (hal : a.length ≤ 1000000) (hbl : b.length ≤ 1000000) :
    Calls Tryz.prog 33 #[ov, .func (.func 35) #[] #[.pointer (some ⟨Bx, 0, none⟩)]] w fun e w' => ∃ r, e = .returned r ∧ SRow w' r (notF a b) ∧ w.grownBy w' ov.ownBlock := by
  rcases hown.2 with ⟨rfl, h0'⟩ | ⟨g, cap, cur, rfl, hbase, hb, h1, h2, h3, h4⟩
  · have : a = [] := List.eq_nil_of_length_eq_zero h0'
    subst this
    refine (del_none none 0 _ w).mono ?_
    rintro e w' ⟨rfl, rfl⟩
    exact ⟨_, rfl, SRow.nil _, World.grownBy.refl _ _⟩
  · have hH : Holds encStr w g 0 a.toArray := holds_of_block hb (by simpa using h4)
    have hgl := (Array.getElem?_eq_some_iff.1 hb).1
    have hp : PredAt Tryz.prog 35 #[.pointer (some ⟨Bx, 0, none⟩)] encStr (fun s => decide (s ∈ b)) w := fun W x hW =>
      (not1_any bv b x Bx W ((hW.cell (p := ⟨Bx, 0, none⟩) (by show Bx < _; omega)).trans hc) ((hv.below hb0).below hW) hbl).mono (by rintro e w' ⟨rfl, rfl⟩; exact ⟨rfl, 0, rfl⟩)
    have hpo : PredOver Tryz.prog 35 #[.pointer (some ⟨Bx, 0, none⟩)] encStr (fun s => decide (s ∈ b)) g 0 a.toArray.size w := fun n os dk x _ => by
      have hW : Below B w (sortWorld encStr w g 0 n dk os) := (Below.refl B w).grown (grownBy_sorted dk) hBw (fun k e => by cases e; exact hbase)
      exact (not1_any bv b x Bx _ ((hW.cell (p := ⟨Bx, 0, none⟩) hBx).trans hc) (hv.below (hb0.trans (hW.mono h0))) hbl).mono (by rintro e w' ⟨rfl, rfl⟩; exact ⟨rfl, 0, rfl⟩)
    refine (Tryz.slices_DeleteFunc encStr encStr_one (fun s => decide (s ∈ b)) 35 #[.pointer (some ⟨Bx, 0, none⟩)] (enters_of Tryz.func35 (by kernel_rfl) rfl) [] (fun _ => by kernel_rfl) g 0 cap a.toArray w hp hpo hH (by simp; omega) (by simpa using h1)).mono ?_
    rintro e w' ⟨rfl, q, rfl⟩
    have ef : (a.toArray.toList.filter fun x => !decide (x ∈ b)) = notF a b := by simp [notF]
    rw [ef]
    have hle : (notF a b).length ≤ a.length := List.length_filter_le _ _
    have hgr : w.grownBy (grow (putRow encStr (Sort.ahead w q) g 0 (notF a b ++ List.replicate (a.toArray.size - (notF a b).length) []).toArray) #[]) (some g) := grownBy_sorted _
    have ho := ownsRow_sorted (ss := a) (ts := notF a b ++ List.replicate (a.toArray.size - (notF a b).length) []) (n := q) (os := #[]) (by simp; omega) hbase hb h1 h2 h3
    rw [grow_empty] at hgr ho
    refine ⟨_, rfl, ⟨_, cap, rfl, by omega, ⟨by unfold maxLen at h2; omega, fun h => by cases h⟩, fun j t hj => ?_⟩, hgr⟩
    have hjl : j < (notF a b).length := (List.getElem?_eq_some_iff.1 hj).1
    refine ⟨g, 0, rfl, Nat.lt_of_lt_of_le hgl hgr.size, ?_⟩
    rw [Nat.zero_add]
    refine owns_cell ho ?_
    rw [List.getElem?_map, List.getElem?_append_left hjl, hj]
    rfl
/-- a copy of a row of texts -/
theorem clone_any (v : Value) (a : List (List UInt8)) (w : World) (hv : SRow w v a) (hl : a.length ≤ 1000000) :
    Calls Tryz.prog 34 #[v] w fun e w' => ∃ r, e = .returned r ∧ w'.ownsRow w.heap.size 9 1 r a.length (a.map encStr) ∧ Below w.heap.size w w' := by
  obtain ⟨ao, cap, rfl, hcap, _, hcell⟩ := hv
  cases a with
  | nil =>
    cases ao with
    | none =>
      refine (Tryz.slices_Clone_string_nil 0 cap w).mono ?_
      rintro e w' ⟨rfl, rfl⟩
      exact ⟨_, rfl, World.ownsRow_nil _ _ _ _, Below.refl _ _⟩
    | some p =>
      refine (Tryz.slices_Clone_string_zero p cap w).mono ?_
      rintro e w' ⟨v', rfl, h1, _, h2⟩
      exact ⟨_, rfl, h1, h2⟩
  | cons x r =>
    obtain ⟨b, off, rfl, hb, _⟩ := hcell 0 x rfl
    refine (Tryz.slices_Clone_string b off (x :: r).length cap ((x :: r).map fun t => ⟨t.toArray⟩) w (by simp) (by omega) (fun j hj => by
      obtain ⟨u, hu⟩ : ∃ u, (x :: r)[j]? = some u := ⟨(x :: r)[j]'(by simpa using hj), List.getElem?_eq_getElem _⟩
      obtain ⟨b', off', e1, _, e3⟩ := hcell j u hu
      cases e1
      rw [e3, map_getD _ hu])).mono ?_
    rw [List.take_of_length_le (by simp)]
    rintro e w' ⟨v', rfl, h1, _, h2⟩
    refine ⟨_, rfl, ?_, h2⟩
    rw [List.map_map] at h1
    exact h1

set_option maxRecDepth 100000 in
set_option maxHeartbeats 2000000 in
theorem not_any (av bv : Value) (a b : List (List UInt8)) (w : World) (ha : SRow w av a) (hb : SRow w bv b) (hal : a.length ≤ 1000000) (hbl : b.length ≤ 1000000) :
    Calls Tryz.prog 13 #[av, bv] w fun e w' => ∃ r, e = .returned r ∧ SRow w' r (notF a b) ∧ Below w.heap.size w w' := by
  have y0 := (Below.refl w.heap.size w).alloc (Nat.le_refl _) (.cells #[bv] 22)
  have x0 := World.heap_alloc_new w (.cells #[bv] 22)
  have c0 : (w.alloc (.cells #[bv] 22)).cell? ⟨w.heap.size, 0, none⟩ = some bv := by rw [Lib.cell_of_heap x0]; rfl
  have cK := clone_any av a _ (ha.below y0) hal
  have HB := Lib.hid hb
  clear ha hb x0
  obtain ⟨aa, an, ac, rfl⟩ : ∃ a n c, bv = .slice a n c := by
    obtain ⟨ao, cap, h, _⟩ := HB.out
    exact ⟨_, _, _, h⟩
  go_enter Tryz.func13, Tryz.ntmps13
  go_wp2_with (first
    | (go_at_call 34; with_reducible refine cK.mono ?_; rintro e w1 ⟨r, rfl, ho, h⟩; have cD := del_any a b (.slice aa an ac) r _ w.heap.size w1 ho (by rw [alloc_size]; exact Nat.lt_succ_self _) h.size (below_cell h c0) w HB.out (by rw [alloc_size]; exact Nat.le_succ _) (y0.trans (h.mono (by rw [alloc_size]; exact Nat.le_succ _))) hal hbl; have y := y0.trans (h.mono y0.size))
    | (go_at_call 33; go_loud (with_reducible refine cD.mono ?_; rintro e w2 ⟨r2, rfl, hr, g2⟩; have y := y.grown g2 y.size (fun j h => by have := (ho.lt j h).1; rw [alloc_size] at this; omega))))
  go_ret
  exact ⟨_, rfl, hr, y⟩
end Go.Proofs.YtiggekmhojlegaaGreatDoor
