/- The walks over flags.Has, Print, Not: each returns what its plain function says. Conditions: flags.system lies as the program's text lays it. append of a row of texts to a row that is owned. No condition beyond those it names. The walks over slices.Grow, slices.Concat at rows of texts, and flags.Or: each returns what its plain function says. Conditions: flags.system lies as the program's text lays it. -/
import Derived.Lib.Join
import Derived.Deep.AppendLies
import Derived.Shelf.Spec.SlicesGrow
import Derived.Laws.AppendOwnNone
import Derived.Test.YteclajckkjocnaaGreatDoorPkContS
namespace Go.Proofs.YteclajckkjocnaaGreatDoor
open Go.RowKit Go.Shelf Go.Sort
set_option linter.unusedSimpArgs false
/-- the first ones without the others -/
def notF (a b : List (List UInt8)) : List (List UInt8) := a.filter fun s => !decide (s ∈ b)
set_option maxRecDepth 100000 in
set_option maxHeartbeats 2000000 in
theorem not1_any (bv : Value) (b : List (List UInt8)) (s : List UInt8) (B : Nat) (W : World) (hc : W.cell? ⟨B, 0, none⟩ = some bv) (hv : SRow W bv b) (hl : b.length ≤ 1000000) :
    Calls Tryz.prog 76 #[.string ⟨s.toArray⟩, .pointer (some ⟨B, 0, none⟩)] W fun e w' => e = .returned (.bool (decide (s ∈ b))) ∧ W = w' := by
  have cC := contains_any bv b s W hv hl
  clear hv
  go_enter Tryz.func76, Tryz.ntmps76
  go_wp2_with (go_at_call 55; with_reducible refine cC.mono ?_; rintro e w2 ⟨rfl, hw⟩; rw [← hw]; clear hw)
  go_ret
  exact ⟨rfl, rfl⟩
set_option maxRecDepth 100000 in
set_option maxHeartbeats 2000000 in
theorem del_none (a : Option Addr) (c : Nat) (fv : Value) (w : World) :
    Calls Tryz.prog 75 #[.slice a 0 c, fv] w fun e w' => e = .returned (.slice a 0 c) ∧ w = w' := by
  have cI := Tryz.slices_IndexFunc_empty (α := List UInt8) a c fv w
  go_enter Tryz.func75, Tryz.ntmps75
  go_wp2_with (go_at_call 63; with_reducible refine cI.mono ?_; rintro e w2 ⟨rfl, hw⟩; rw [hw]; clear hw)
  go_ret
  exact ⟨rfl, rfl⟩
/-- the deletion from a row that the call owns -/
theorem del_any (a b : List (List UInt8)) (bv ov : Value) (B Bx : Nat) (w : World) (hown : w.ownsRow B 9 1 ov a.length (a.map encStr)) (hBx : Bx < B) (hBw : B ≤ w.heap.size) (hc : w.cell? ⟨Bx, 0, none⟩ = some bv) (w0 : World) (hv : SRow w0 bv b) (h0 : w0.heap.size ≤ B) (hb0 : Below w0.heap.size w0 w) (hal : a.length ≤ 1000000) (hbl : b.length ≤ 1000000) :
    Calls Tryz.prog 75 #[ov, .func (.func 76) #[] #[.pointer (some ⟨Bx, 0, none⟩)]] w fun e w' => ∃ r, e = .returned r ∧ TRow w' r (notF a b) ∧ w.grownBy w' ov.ownBlock := by
  rcases hown.2 with ⟨rfl, h0'⟩ | ⟨g, cap, cur, rfl, hbase, hb, h1, h2, h3, h4⟩
  · have : a = [] := List.eq_nil_of_length_eq_zero h0'
    subst this
    refine (del_none none 0 _ w).mono ?_
    rintro e w' ⟨rfl, rfl⟩
    exact ⟨_, rfl, TRow.nil _, World.grownBy.refl _ _⟩
  · have hH : Holds encStr w g 0 a.toArray := holds_of_block hb (by simpa using h4)
    have hgl := (Array.getElem?_eq_some_iff.1 hb).1
    have hp : PredAt Tryz.prog 76 #[.pointer (some ⟨Bx, 0, none⟩)] encStr (fun s => decide (s ∈ b)) w := fun W x hW =>
      (not1_any bv b x Bx W ((hW.cell (p := ⟨Bx, 0, none⟩) (by show Bx < _; omega)).trans hc) ((hv.below hb0).below hW) hbl).mono (by rintro e w' ⟨rfl, rfl⟩; exact ⟨rfl, 0, rfl⟩)
    have hpo : PredOver Tryz.prog 76 #[.pointer (some ⟨Bx, 0, none⟩)] encStr (fun s => decide (s ∈ b)) g 0 a.toArray.size w := fun n os dk x _ => by
      have hW : Below B w (sortWorld encStr w g 0 n dk os) := (Below.refl B w).grown (grownBy_sorted dk) hBw (fun k e => by cases e; exact hbase)
      exact (not1_any bv b x Bx _ ((hW.cell (p := ⟨Bx, 0, none⟩) hBx).trans hc) (hv.below (hb0.trans (hW.mono h0))) hbl).mono (by rintro e w' ⟨rfl, rfl⟩; exact ⟨rfl, 0, rfl⟩)
    refine (Tryz.slices_DeleteFunc encStr encStr_one (fun s => decide (s ∈ b)) 76 #[.pointer (some ⟨Bx, 0, none⟩)] (enters_of Tryz.func76 (by kernel_rfl) rfl) [] (fun _ => by kernel_rfl) g 0 cap a.toArray w hp hpo hH (by simp; omega) (by simpa using h1)).mono ?_
    rintro e w' ⟨rfl, q, rfl⟩
    have ef : (a.toArray.toList.filter fun x => !decide (x ∈ b)) = notF a b := by simp [notF]
    rw [ef]
    have hle : (notF a b).length ≤ a.length := List.length_filter_le _ _
    have hgr : w.grownBy (grow (putRow encStr (Sort.ahead w q) g 0 (notF a b ++ List.replicate (a.toArray.size - (notF a b).length) []).toArray) #[]) (some g) := grownBy_sorted _
    have ho := ownsRow_sorted (ss := a) (ts := notF a b ++ List.replicate (a.toArray.size - (notF a b).length) []) (n := q) (os := #[]) (by simp; omega) hbase hb h1 h2 h3
    rw [grow_empty] at hgr ho
    refine ⟨_, rfl, ⟨⟨_, cap, rfl, by omega, ⟨by unfold maxLen at h2; omega, fun h => by cases h⟩, fun j t hj => ?_⟩, stag_cut (stag_owns ho)⟩, hgr⟩
    have hjl : j < (notF a b).length := (List.getElem?_eq_some_iff.1 hj).1
    refine ⟨g, 0, rfl, Nat.lt_of_lt_of_le hgl hgr.size, ?_⟩
    rw [Nat.zero_add]
    refine owns_cell ho ?_
    rw [List.getElem?_map, List.getElem?_append_left hjl, hj]
    rfl
/-- a copy of a row of texts -/
theorem clone_any (v : Value) (a : List (List UInt8)) (w : World) (hv : SRow w v a) (hl : a.length ≤ 1000000) :
    Calls Tryz.prog 47 #[v] w fun e w' => ∃ r, e = .returned r ∧ w'.ownsRow w.heap.size 9 1 r a.length (a.map encStr) ∧ Below w.heap.size w w' := by
  obtain ⟨ao, cap, rfl, hcap, _, hcell⟩ := hv
  cases a with
  | nil =>
    cases ao with
    | none =>
      refine (Tryz.slices_Clone_string_nil 0 cap w).mono ?_
      rintro e w' ⟨rfl, rfl⟩
      exact ⟨_, rfl, World.ownsRow_nil _ _ _ _, Below.refl _ _⟩
    | some p =>
      refine (Tryz.slices_Clone_string_zero p cap w).mono ?_
      rintro e w' ⟨v', rfl, h1, _, h2⟩
      exact ⟨_, rfl, h1, h2⟩
  | cons x r =>
    obtain ⟨b, off, rfl, hb, _⟩ := hcell 0 x rfl
    refine (Tryz.slices_Clone_string b off (x :: r).length cap ((x :: r).map fun t => ⟨t.toArray⟩) w (by simp) (by omega) (fun j hj => by
      obtain ⟨u, hu⟩ : ∃ u, (x :: r)[j]? = some u := ⟨(x :: r)[j]'(by simpa using hj), List.getElem?_eq_getElem _⟩
      obtain ⟨b', off', e1, _, e3⟩ := hcell j u hu
      cases e1
      rw [e3, map_getD _ hu])).mono ?_
    rw [List.take_of_length_le (by simp)]
    rintro e w' ⟨v', rfl, h1, _, h2⟩
    refine ⟨_, rfl, ?_, h2⟩
    rw [List.map_map] at h1
    exact h1
set_option maxRecDepth 100000 in
set_option maxHeartbeats 2000000 in
theorem not_any (av bv : Value) (a b : List (List UInt8)) (w : World) (ha : SRow w av a) (hb : SRow w bv b) (hal : a.length ≤ 1000000) (hbl : b.length ≤ 1000000) :
    Calls Tryz.prog 52 #[av, bv] w fun e w' => ∃ r, e = .returned r ∧ TRow w' r (notF a b) ∧ Below w.heap.size w w' := by
  have y0 := (Below.refl w.heap.size w).alloc (Nat.le_refl _) (.cells #[bv] 35)
  have x0 := World.heap_alloc_new w (.cells #[bv] 35)
  have c0 : (w.alloc (.cells #[bv] 35)).cell? ⟨w.heap.size, 0, none⟩ = some bv := by rw [Lib.cell_of_heap x0]; rfl
  have cK := clone_any av a _ (ha.below y0) hal
  have HB := Lib.hid hb
  clear ha hb x0
  obtain ⟨aa, an, ac, rfl⟩ : ∃ a n c, bv = .slice a n c := by
    obtain ⟨ao, cap, h, _⟩ := HB.out
    exact ⟨_, _, _, h⟩
  go_enter Tryz.func52, Tryz.ntmps52
  go_wp2_with (first
    | (go_at_call 47; with_reducible refine cK.mono ?_; rintro e w1 ⟨r, rfl, ho, h⟩; have cD := del_any a b (.slice aa an ac) r _ w.heap.size w1 ho (by rw [alloc_size]; exact Nat.lt_succ_self _) h.size (below_cell h c0) w HB.out (by rw [alloc_size]; exact Nat.le_succ _) (y0.trans (h.mono (by rw [alloc_size]; exact Nat.le_succ _))) hal hbl; have y := y0.trans (h.mono y0.size))
    | (go_at_call 75; go_loud (with_reducible refine cD.mono ?_; rintro e w2 ⟨r2, rfl, hr, g2⟩; have y := y.grown g2 y.size (fun j h => by have := (ho.lt j h).1; rw [alloc_size] at this; omega))))
  go_ret
  exact ⟨_, rfl, hr, y⟩
end Go.Proofs.YteclajckkjocnaaGreatDoor
namespace Go.Proofs.YteclajckkjocnaaGreatDoor
open Go.RowKit Go.Shelf Go.Sort
set_option linter.unusedSimpArgs false
section
variable {P : Program} {ops : Array Oper} {rest : List Oper} {o : Oper} {a : Act} {Q : Exit → Act → World → Prop}
/-- append(v, x...), v owned, x a row of texts -/
theorem wpList_appS (hgd : o.guard = none) (s x : Operand) (t : TypeId) (ho : o.op = .call { callee := .builtin .append, args := #[s, x], argTypes := #[t, t] })
    (e : TypeId) {z : Value} {bytes : Nat} (ht : P.underlying t = some (.slice e)) (hinfo : (P.info? e).map (fun i => (i.zero, i.size, i.bytes)) = some (some z, 1, bytes)) (hzs : z.cells.size = 1)
    (base : Nat) (v : Value) (xs : List (List UInt8)) (w : World) (hs : a.eval s = v) (hown : w.ownsRow base e 1 v xs.length (xs.map encStr))
    (ao : Option Addr) (l : List (List UInt8)) (cap : Nat) (hx : a.eval x = .slice ao l.length cap) (hnone : ao = none → cap = 0) (hcell : ∀ (j : Nat) (t : List UInt8), l[j]? = some t → ∃ b off, ao = some ⟨b, off, none⟩ ∧ b < w.heap.size ∧ w.cell? ⟨b, off + j, none⟩ = some (.string ⟨t.toArray⟩))
    (hn : xs.length + l.length ≤ 4294967296) (hb : bytes ≤ 64) (hbase : base ≤ w.heap.size)
    (h : ∀ v' w', w'.ownsRow base e 1 v' (xs ++ l).length ((xs ++ l).map encStr) → w.grownBy w' v.ownBlock → wpList P ops Q rest (a.put o.dst v') w') : wpList P ops Q (o :: rest) a w := by
  obtain ⟨i0, hi, hz0, hz1, hz2⟩ := info_parts hinfo
  cases l with
  | nil =>
    cases ao with
    | none =>
      refine wpList_append_own_none hgd s x t ho base e i0 1 ht hi v xs.length (xs.map encStr) hs hown (by rw [hx, hnone rfl]; rfl) (h v w (by simpa using hown) (World.grownBy.refl _ _))
    | some p =>
      refine wpList_append_own _ hgd s x t ho base e i0 z 1 bytes ht hi hz0 hz1 hz2 hzs (by decide) v xs.length (xs.map encStr) hs hown p 0 cap [] (by simpa using hx) rfl (fun j u hj => by simp at hj) (fun u hu => by cases hu) (by unfold maxLen; simp only [List.length_nil] at hn; omega) (by simp only [List.length_nil] at hn; have : (xs.length + 0) * bytes ≤ 4294967296 * 64 := Nat.mul_le_mul (by omega) hb; omega) hbase ?_
      intro v' w' k1 k2 _
      exact h v' w' (by simpa using k1) k2
  | cons y r =>
    obtain ⟨b, off, rfl, _, _⟩ := hcell 0 y rfl
    refine wpList_append_own _ hgd s x t ho base e i0 z 1 bytes ht hi hz0 hz1 hz2 hzs (by decide) v xs.length (xs.map encStr) hs hown ⟨b, off, none⟩ (y :: r).length cap ((y :: r).map encStr) hx (by simp) ?_ ?_ (by unfold maxLen; omega) (by have : (xs.length + (y :: r).length) * bytes ≤ 4294967296 * 64 := Nat.mul_le_mul hn hb; omega) hbase ?_
    · intro j u hj
      rw [List.getElem?_map] at hj
      obtain ⟨t', ht', rfl⟩ := Option.map_eq_some_iff.1 hj
      obtain ⟨b', off', e1, _, e3⟩ := hcell j t' ht'
      cases e1
      rw [add_pl]
      exact e3
    · intro u hu
      obtain ⟨t', _, rfl⟩ := List.mem_map.1 hu
      rfl
    · intro v' w' k1 k2 _
      refine h v' w' ?_ k2
      rw [List.length_append, List.map_append]
      exact k1
end
end Go.Proofs.YteclajckkjocnaaGreatDoor
namespace Go.Proofs.YteclajckkjocnaaGreatDoor
open Go.RowKit Go.Shelf Go.Sort
set_option linter.unusedSimpArgs false
theorem zeros_size (k : Nat) : (Builtin.zeroCells (Value.string ByteArray.empty).cells k).size = k := by simp [Builtin.zeroCells, Value.cells]
theorem grow_any (n : Nat) (w : World) (h0 : 0 < n) (hn : n ≤ 1000000) :
    Calls Tryz.prog 99 #[.slice none 0 0, .int .i64 (n : Int)] w fun e w' => ∃ ao cap, e = .returned (.slice ao 0 cap) ∧ w'.ownsRow w.heap.size 9 1 (.slice ao 0 cap) 0 [] ∧ Below w.heap.size w w' := by
  obtain ⟨i0, hi, hz0, hz1, hz2⟩ := info_parts str_info
  have hcap : 0 + n ≤ grownCap w (0 + n) 0 9 := grownCap_ge _ _ _ _
  have hcap2 : grownCap w (0 + n) 0 9 ≤ maxLen := grownCap_le_maxLen _ _ _ _ (by unfold maxLen; omega)
  refine (Any8.slices_Grow_grow Tryz.laysGrow i0 (.string ByteArray.empty) hi hz0 (by rw [hz1]; decide) none 0 0 n [] w (Nat.le_refl _) (by omega) (by rw [hz2]; omega) (by omega) (by simp) (fun _ => rfl) (fun a h => by cases h)).mono ?_
  rintro e w' ⟨rfl, rfl⟩
  refine ⟨_, _, rfl, ⟨rfl, Or.inr ⟨w.heap.size, _, _, rfl, Nat.le_refl _, World.heap_alloc_new w.drew _, Nat.zero_le _, hcap2, ?_, rfl⟩⟩, ((Below.refl _ _).drew).alloc (Nat.le_refl _) _⟩
  show (#[] ++ Builtin.zeroCells (Value.string ByteArray.empty).cells (0 + n - 0) ++ Builtin.zeroCells (Value.string ByteArray.empty).cells (grownCap w (0 + n) 0 9 - (0 + n))).size = grownCap w (0 + n) 0 9 * 1
  rw [Array.size_append, Array.size_append, zeros_size, zeros_size]
  show 0 + _ + _ = _
  omega
def restL (a b : List (List UInt8)) : Nat → List (List UInt8)
  | 0 => a ++ b
  | 1 => b
  | _ => []
def sumN (a b : List (List UInt8)) : Nat → Nat
  | 0 => 0
  | 1 => a.length
  | _ => a.length + b.length
set_option maxRecDepth 100000 in
set_option maxHeartbeats 8000000 in
theorem concat_any (av bv : Value) (a b : List (List UInt8)) (S : Nat) (w : World) (hS : w.heap[S]? = some (.cells #[av, bv] 35 (0, 0))) (ha : SRow w av a) (hb : SRow w bv b) (hal : a.length ≤ 100000) (hbl : b.length ≤ 100000) :
    Calls Tryz.prog 74 #[.slice (some ⟨S, 0, none⟩) 2 2] w fun e w' => ∃ ov, e = .returned ov ∧ w'.ownsRow w.heap.size 9 1 ov (a ++ b).length ((a ++ b).map encStr) ∧ Below w.heap.size w w' := by
  have hSl := (Array.getElem?_eq_some_iff.1 hS).1
  obtain ⟨aa, ac, rfl, _, ⟨_, han⟩, hac⟩ := ha
  obtain ⟨ba, bc, rfl, _, ⟨_, hbn⟩, hbc⟩ := hb
  have c0 := (two_cells hS).1
  have c1 := (two_cells hS).2
  have HA := Lib.hid hac
  have HB := Lib.hid hbc
  clear hac hbc
  go_enter Tryz.func74, Tryz.ntmps74
  go_wp2_with fail
  go_loopg [3, 11] 2 (fun g3 s3 s11 wr => ∃ (k n : Nat), k + g3 = 2 ∧ s11 = .int .i64 (k : Int) ∧ s3 = .int .i64 (n : Int) ∧ w = wr ∧ n ≤ 200000 ∧ Hid (n = sumN a b k))
  case atStart => exact ⟨0, 0, by omega, rfl, rfl, rfl, by omega, rfl⟩
  case round =>
    obtain ⟨k, n, hk, rfl, rfl, hw, hn, HN⟩ := hrel
    subst hw
    by_cases hlt : k < 2
    · obtain ⟨g', rfl⟩ : ∃ g', gk = g' + 1 := ⟨gk - 1, by omega⟩
      rcases (show k = 0 ∨ k = 1 by omega) with h | h
      · subst h
        have h0 : n = 0 := HN.out
        subst h0
        clear HN
        go_wp2_with fail
        go_roundg g'
        case measure => omega
        case rel => exact ⟨1, a.length, by omega, by go_num, by go_num, rfl, by omega, rfl⟩
      · subst h
        have h0 : n = a.length := HN.out
        subst h0
        clear HN
        go_wp2_with fail
        go_roundg g'
        case measure => omega
        case rel => exact ⟨2, a.length + b.length, by omega, by go_num, by go_num, rfl, by omega, rfl⟩
    · obtain rfl : k = 2 := by omega
      have hn2 : n = a.length + b.length := HN.out
      have key : ∀ (W : World), Calls Tryz.prog 99 #[.slice none 0 0, .int .i64 (n : Int)] W fun e w' => ∃ ao cap, e = .returned (.slice ao 0 cap) ∧ w'.ownsRow W.heap.size 9 1 (.slice ao 0 cap) 0 [] ∧ Below W.heap.size W w' := fun W => by
        rcases Nat.eq_zero_or_pos n with h | h
        · subst h
          refine (Any8.slices_Grow_room Tryz.laysGrow none 0 0 0 W (Nat.le_refl _) (by decide) (by decide) (Nat.le_refl _)).mono ?_
          rintro e w' ⟨rfl, rfl⟩
          exact ⟨none, 0, rfl, World.ownsRow_nil _ _ _ _, Below.refl _ _⟩
        · exact grow_any n W h (by omega)
      clear HN hn2
      go_wp2_with (go_at_call 99; go_loud (with_reducible refine (key _).mono ?_; rintro e w1 ⟨ao, cap, rfl, o1, h1⟩))
      have d0 := below_cell h1 c0
      have d1 := below_cell h1 c1
      go_loopg [6, 27] 2 (fun g6 s6 s27 wr => ∃ (k : Nat) (acc : List (List UInt8)) (ov : Value), k + g6 = 2 ∧ s27 = .int .i64 (k : Int) ∧ ov = s6 ∧ wr.ownsRow w.heap.size 9 1 ov acc.length (acc.map encStr) ∧ Below w.heap.size w wr ∧ acc.length ≤ 200000 ∧ Hid (acc ++ restL a b k = a ++ b))
      case atStart => exact ⟨0, [], _, by omega, rfl, rfl, o1, h1, by simp, rfl⟩
      case round =>
        obtain ⟨k, acc, ov, hk, rfl, rfl, hown, hbr, haL, HR⟩ := hrel
        clear d0 d1 o1 h1
        have d0 := (hbr.cell (p := ⟨S, 0, none⟩) hSl).trans c0
        have d1 := (hbr.cell (p := ⟨S, 1, none⟩) hSl).trans c1
        by_cases hlt2 : k < 2
        · obtain ⟨g', rfl⟩ : ∃ g', gk = g' + 1 := ⟨gk - 1, by omega⟩
          rcases (show k = 0 ∨ k = 1 by omega) with h | h
          · subst h
            have hr : acc = [] := by
              have := congrArg List.length HR.out
              simp [restL] at this
              exact this
            subst hr
            have hcell : ∀ (j : Nat) (t : List UInt8), a[j]? = some t → ∃ b off, aa = some ⟨b, off, none⟩ ∧ b < wr.heap.size ∧ wr.cell? ⟨b, off + j, none⟩ = some (.string ⟨t.toArray⟩) := fun j t hj => by
              obtain ⟨b', off', e1, e2, e3⟩ := HA.out j t hj
              exact ⟨b', off', e1, Nat.lt_of_lt_of_le e2 hbr.size, (hbr.cell (p := ⟨b', off' + j, none⟩) e2).trans e3⟩
            have HCE := Lib.hid hcell
            have hlt3 := hown.lt
            clear hcell HR
            go_wp2_with (at_builtin; go_must (refine wpList_appS rfl _ _ 35 rfl 9 Tryz.underlying35 str_info rfl w.heap.size ov [] _ rfl hown aa a ac rfl han HCE.out ?hn (by decide) hbr.size ?_))
            case hn => simp only [List.length_nil]; omega
            intro v' w2 o2 g2
            have y2 := hbr.grown g2 hbr.size (fun j h => (hlt3 j h).1)
            go_wp2_with fail
            go_roundg g'
            case measure => omega
            case rel => exact ⟨1, [] ++ a, _, by omega, by go_num, rfl, o2, y2, by rw [List.nil_append]; omega, by show _ = _; simp [restL]⟩
          · subst h
            have hr : acc = a := by
              have := HR.out
              simpa [restL] using this
            subst hr
            have hcell : ∀ (j : Nat) (t : List UInt8), b[j]? = some t → ∃ b off, ba = some ⟨b, off, none⟩ ∧ b < wr.heap.size ∧ wr.cell? ⟨b, off + j, none⟩ = some (.string ⟨t.toArray⟩) := fun j t hj => by
              obtain ⟨b', off', e1, e2, e3⟩ := HB.out j t hj
              exact ⟨b', off', e1, Nat.lt_of_lt_of_le e2 hbr.size, (hbr.cell (p := ⟨b', off' + j, none⟩) e2).trans e3⟩
            have HCE := Lib.hid hcell
            have hlt3 := hown.lt
            clear hcell HR
            go_wp2_with (at_builtin; go_must (refine wpList_appS rfl _ _ 35 rfl 9 Tryz.underlying35 str_info rfl w.heap.size ov acc _ rfl hown ba b bc rfl hbn HCE.out ?hn (by decide) hbr.size ?_))
            case hn => omega
            intro v' w2 o2 g2
            have o2 : w2.ownsRow w.heap.size 9 1 v' (acc ++ b).length ((acc ++ b).map encStr) := by
              rw [List.length_append, List.map_append]; simpa using o2
            have y2 := hbr.grown g2 hbr.size (fun j h => (hlt3 j h).1)
            go_wp2_with fail
            go_roundg g'
            case measure => omega
            case rel => exact ⟨2, acc ++ b, _, by omega, by go_num, rfl, o2, y2, by rw [List.length_append]; omega, by show _ = _; simp [restL]⟩
        · obtain rfl : k = 2 := by omega
          have hr : acc = a ++ b := by
            have := HR.out
            simpa [restL] using this
          have HX := Lib.hid hr
          clear hr HR
          go_wp2_with fail
          go_ret
          rw [HX.out] at hown
          exact ⟨_, rfl, hown, hbr⟩
set_option maxRecDepth 100000 in
set_option maxHeartbeats 4000000 in
theorem or_any (av bv : Value) (a b : List (List UInt8)) (w : World) (ha : SRow w av a) (hb : SRow w bv b) (hal : a.length ≤ 100000) (hbl : b.length ≤ 100000) (hG : FlagG w) :
    Calls Tryz.prog 51 #[av, bv] w fun e w' => ∃ r, e = .returned r ∧ TRow w' r (canonF (a ++ b)) ∧ Below w.heap.size w w' := by
  have y0 := (Below.refl w.heap.size w).alloc (Nat.le_refl _) (.cells #[av, bv] 35)
  have cK := concat_any av bv a b w.heap.size _ (World.heap_alloc_new w (.cells #[av, bv] 35)) (ha.below y0) (hb.below y0) hal hbl
  have hlen : (a ++ b).length ≤ 1000000 := by rw [List.length_append]; omega
  have hGl := flagG_lt hG
  obtain ⟨aa, an, ac, rfl⟩ : ∃ a n c, av = .slice a n c := by
    obtain ⟨ao, cap, h, _⟩ := ha
    exact ⟨_, _, _, h⟩
  obtain ⟨ba, bn, bc, rfl⟩ : ∃ a n c, bv = .slice a n c := by
    obtain ⟨ao, cap, h, _⟩ := hb
    exact ⟨_, _, _, h⟩
  clear ha hb
  generalize a ++ b = ab at *
  by_cases hne : ab = []
  · subst hne
    have cS := fun p c W => Tryz.slices_SortFunc_none (α := List UInt8) p c (.func (.func 43) #[] #[]) W
    have cC := fun p c W => Tryz.slices_Compact_string_empty p c W
    go_enter Tryz.func51, Tryz.ntmps51
    go_wp2_with (first
      | (go_at_call 74; go_loud ((with_reducible refine cK.mono ?_); rintro e w1 ⟨ov, rfl, ho, h⟩; obtain ⟨p, c, rfl, _⟩ := owns_slice ho; have y := y0.trans (h.mono y0.size)))
      | (go_at_call 42; with_reducible refine (cS _ _ _).mono ?_; rintro e w2 ⟨rfl, hw⟩; rw [hw]; clear hw)
      | (go_at_call 44; with_reducible refine (cC _ _ _).mono ?_; rintro e w3 ⟨rfl, hw⟩; rw [hw]; clear hw))
    go_ret
    refine ⟨_, rfl, ?_, y⟩
    have hst := stag_owns ho
    rcases ho.2 with ⟨h0, _⟩ | ⟨g, cap', cur, h0, _, _, _, h9, _⟩
    · cases h0; exact TRow.nil _
    · cases h0
      exact ⟨⟨_, _, rfl, Nat.zero_le _, ⟨by unfold maxLen at h9; omega, fun h => by cases h⟩, fun j t hj => by simp [canonF] at hj⟩, hst⟩
  · have hpos : 0 < ab.length := List.length_pos_iff.2 hne
    have cS := fun ov W ho hg => sortF_any ab ov (w.heap.size + 1) W ho hg (Nat.lt_succ_of_lt hGl) hne hlen
    have cC := fun ov d W hd ho => compactF_any d ab.length ov (w.heap.size + 1) W hd ho hpos hlen
    rw [alloc_size] at cK
    go_enter Tryz.func51, Tryz.ntmps51
    go_wp2_with (first
      | (go_at_call 74; go_loud ((with_reducible refine cK.mono ?_); rintro e w1 ⟨ov, rfl, ho, h⟩; have y := y0.trans (h.mono (Nat.le_succ _)); have s1 := h.size; have hlt2 := ho.lt; have cS1 := cS ov w1 ho (hG.below y)))
      | (go_at_call 42; go_loud ((with_reducible refine cS1.mono ?_); rintro e w2 ⟨rfl, d, hd, o1, g1, hcd⟩; have y := y.grown g1 y.size (fun j h => by have := (hlt2 j h).1; omega); have cC1 := cC ov d w2 hd.out o1; rw [hcd.out] at cC1))
      | (go_at_call 44; go_loud ((with_reducible refine cC1.mono ?_); rintro e w3 ⟨aq, cq, rfl, hr, g2⟩; have y := y.grown g2 y.size (fun j h => by have := (hlt2 j h).1; omega))))
    go_ret
    exact ⟨_, rfl, hr, y⟩
end Go.Proofs.YteclajckkjocnaaGreatDoor
