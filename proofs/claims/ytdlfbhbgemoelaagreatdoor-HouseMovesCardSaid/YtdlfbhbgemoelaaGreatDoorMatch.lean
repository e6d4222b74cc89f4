/- The walk over house.Match: whether a name is as a pattern asks. No condition beyond those each names. -/
import Derived.Test.YtdlfbhbgemoelaaGreatDoorKept
import Derived.Test.YtdlfbhbgemoelaaGreatDoorPMatch3
import Derived.Test.YtdlfbhbgemoelaaGreatDoorByteAt
import Derived.Deep.OwnRows
import Derived.Deep.DeepCutAuto
namespace Go.Proofs.YtdlfbhbgemoelaaGreatDoor
open Go.RowKit Go.Shelf Go.Sort
set_option linter.unusedSimpArgs false

def boolC (l : List Bool) : Array Value := (l.map Value.bool).toArray
/-- a block that holds just these Bools -/
def BoolsAt (W : World) (g : Nat) (l : List Bool) : Prop := W.heap[g]? = some (.cells (boolC l) 4 (0, 0))
theorem BoolsAt.cell {W : World} {g : Nat} {l : List Bool} (h : BoolsAt W g l) {j : Nat} {x : Bool} (hj : l[j]? = some x) : W.cell? ⟨g, j, none⟩ = some (.bool x) := by
  rw [Lib.cell_of_heap h]
  simp [boolC, hj]
theorem BoolsAt.free {W : World} {g : Nat} {l : List Bool} (h : BoolsAt W g l) (j : Nat) : W.frozen? ⟨g, j, none⟩ = false := by
  unfold BoolsAt at h
  simp [World.frozen?, h]
theorem BoolsAt.put {W : World} {g : Nat} {l : List Bool} (h : BoolsAt W g l) (j : Nat) (y : Bool) : BoolsAt (W.setCell ⟨g, j, none⟩ (.bool y)) g (l.set j y) := by
  unfold BoolsAt at h ⊢
  rw [setCell_eq_setRow W g j _ _ _ _ h]
  have := setRow_heap W g (boolC l) ((boolC l).setIfInBounds j (.bool y)) _ _ h
  rw [show boolC (l.set j y) = (boolC l).setIfInBounds j (.bool y) by simp [boolC, List.map_set]]
  simpa using this
theorem BoolsAt.other {W : World} {g : Nat} {l : List Bool} (h : BoolsAt W g l) {a : Addr} (hne : g ≠ a.block) (u : Value) : BoolsAt (W.setCell a u) g l := setCell_same h hne
theorem bools_made (n : Nat) : madeCells #[Value.bool false] n = boolC (List.replicate n false) := by
  apply Array.ext_getElem?
  intro i
  by_cases hi : i < n
  · simp [madeCells, boolC, hi, Nat.mod_one]
  · simp [madeCells, boolC, hi]
theorem bool_info : (Tryz.prog.info? 4).map (fun i => (i.zero, i.size, i.bytes)) = some (some (.bool false), 1, 1) := by kernel_rfl

/-- what an index says: where it is found, or below 0 -/
def SomeAt (b : Bool) (w : World) (e : Ending) (w' : World) : Prop := ∃ z : Int, e = .returned (.int .i64 z) ∧ decide (0 ≤ z) = b ∧ w = w'
theorem take_more {l : List Bool} {k : Nat} {b : Bool} (h : l[k]? = some b) : decide (true ∈ l.take (k + 1)) = (decide (true ∈ l.take k) || b) := by
  rw [List.take_add_one, h]
  cases b <;> simp
set_option maxRecDepth 100000 in
set_option maxHeartbeats 2000000 in
theorem indexB_any (g cap n : Nat) (l : List Bool) (w : World) (h : BoolsAt w g l) (hn : n ≤ l.length) (hl : l.length ≤ 1000000) :
    Calls Tryz.prog 75 #[.slice (some ⟨g, 0, none⟩) n cap, .bool true] w (SomeAt (decide (true ∈ l.take n)) w) := by
  have HB := Lib.hid h
  clear h
  go_enter Tryz.func75, Tryz.ntmps75
  go_wp2_with fail
  go_loopg [8] n (fun gk s8 wr => ∃ k : Nat, k + gk = n ∧ s8 = .int .i64 (k : Int) ∧ Hid (decide (true ∈ l.take k) = false) ∧ wr = w)
  case atStart => exact ⟨0, by omega, rfl, Lib.hid (by simp), rfl⟩
  case round =>
    obtain ⟨k, hk, rfl, HK, rfl⟩ := hrel
    by_cases hlt : k < n
    · obtain ⟨g', rfl⟩ : ∃ g', gk = g' + 1 := ⟨gk - 1, by omega⟩
      obtain ⟨b, hb⟩ : ∃ b, l[k]? = some b := ⟨l[k]'(by omega), List.getElem?_eq_getElem (by omega)⟩
      have hc := HB.out.cell hb
      have hm := take_more hb
      have hkz : (k : Int) < (n : Int) := by omega
      rw [HK.out, Bool.false_or] at hm
      cases b with
      | true =>
        have hany : decide (true ∈ l.take n) = true := by
          rw [decide_eq_true_eq]
          exact List.mem_of_getElem? (i := k) (by rw [List.getElem?_take_of_lt hlt]; exact hb)
        have HA := Lib.hid hany
        clear hany hm hb
        go_wp2_with fail
        go_ret
        exact ⟨_, rfl, by rw [HA.out]; simp, rfl⟩
      | false =>
        have HM := Lib.hid hm
        clear hm hb
        go_wp2_with fail
        go_roundg g'
        case measure => omega
        case rel => exact ⟨k + 1, by omega, by go_num, HM, rfl⟩
    · obtain rfl : k = n := by omega
      go_wp2_with fail
      go_ret
      exact ⟨_, rfl, by rw [HK.out]; rfl, rfl⟩
set_option maxRecDepth 100000 in
set_option maxHeartbeats 2000000 in
theorem containsB_any (g cap n : Nat) (l : List Bool) (w : World) (h : BoolsAt w g l) (hn : n ≤ l.length) (hl : l.length ≤ 1000000) :
    Calls Tryz.prog 47 #[.slice (some ⟨g, 0, none⟩) n cap, .bool true] w fun e w' => e = .returned (.bool (decide (true ∈ l.take n))) ∧ w = w' := by
  have c := indexB_any g cap n l w h hn hl
  clear h
  go_enter Tryz.func47, Tryz.ntmps47
  go_wp2_with (go_at_call 75; ((with_reducible refine c.mono ?_); rintro e w1 ⟨z, rfl, hz, rfl⟩))
  go_ret
  exact ⟨rfl, rfl⟩
theorem next_step (s : List UInt8) (c : UInt8) (l : List Bool) (k m : Nat) : (nextTo s c l k ++ List.replicate (m + 1) false).set k (cellF [] s c l (nextTo s c l k) k) = nextTo s c l (k + 1) ++ List.replicate m false := by
  rw [nextTo, List.set_append_right _ _ (by rw [nextTo_len]; exact Nat.le_refl _), nextTo_len, Nat.sub_self, List.replicate_succ, List.set_cons_zero, List.append_assoc]
  rfl
theorem below_setNew {B : Nat} {W W' : World} (h : Below B W W') {a : Addr} (ha : B ≤ a.block) (u : Value) : Below B W (W'.setCell a u) := h.setCell ha u
set_option maxRecDepth 100000 in
set_option maxHeartbeats 8000000 in
theorem hmatch_any (p s : List UInt8) (w : World) (hp : p.length ≤ 100000) (hs : s.length ≤ 100000) :
    Calls Tryz.prog 22 #[.string ⟨p.toArray⟩, .string ⟨s.toArray⟩] w fun e w' => e = .returned (.bool (matB p s)) ∧ Below w.heap.size w w' := by
  obtain ⟨i0, hi, hi0, hi1, hi2⟩ := info_parts bool_info
  have tp := text_size p
  have ts := text_size s
  obtain ⟨n, hn⟩ : ∃ n, s.length = n := ⟨_, rfl⟩
  have hw1 : IntKind.i64.wrap ((n : Int) + 1) = ((n + 1 : Nat) : Int) := by rw [IntWalk.i64_in _ (by omega)]; omega
  have hM : matB p s = (rowsF s p).getD n false := by unfold matB; rw [hn]
  rw [hM]
  rw [hn] at ts hs
  clear hM
  go_enter Tryz.func22, Tryz.ntmps22
  go_upto_region 2 with (at_make; refine wpList_make_row _ rfl _ _ 86 rfl 4 i0 (.bool false) Tryz.underlying86 hi hi0 hi1 rfl .i64 .i64 (n + 1) rfl rfl ?b2 ?b3 ?_)
  case b2 => rw [hi2]; omega
  case b3 => omega
  have hb0 : BoolsAt (w.alloc (.cells (madeCells #[.bool false] (n + 1)) 4)) w.heap.size (List.replicate (n + 1) false) := by
    unfold BoolsAt
    rw [← bools_made]
    exact World.heap_alloc_new _ _
  have y0 := (Below.refl w.heap.size w).alloc (Nat.le_refl _) (.cells (madeCells #[.bool false] (n + 1)) 4)
  generalize w.alloc (.cells (madeCells #[.bool false] (n + 1)) 4) = w1 at hb0 y0 ⊢
  obtain ⟨G, hGe⟩ : ∃ G, G = w.heap.size := ⟨_, rfl⟩
  have hG : w.heap.size ≤ G := Nat.le_of_eq hGe.symm
  rw [← hGe] at hb0 ⊢
  clear hGe
  have hc0 := hb0.cell (j := 0) (x := false) (by simp)
  have hf0 := hb0.free 0
  have HB0 := Lib.hid hb0
  have HN := Lib.hid hn
  clear hb0 hn
  go_wp2_with fail
  have hb1 : BoolsAt (w1.setCell ⟨G, 0, none⟩ (.bool true)) G (rowsF s []) := by
    have := HB0.out.put 0 true
    rw [show (List.replicate (n + 1) false).set 0 true = rowsF s [] by unfold rowsF; rw [HN.out]; rfl] at this
    exact this
  have y1 := y0.setCell (p := ⟨G, 0, none⟩) hG (.bool true)
  clear hc0 hf0 HB0 y0
  go_loopg [18, 5] p.length (fun g s18 s5 wr => ∃ (k G : Nat) (l : List Bool), k + g = p.length ∧ s18 = .int .i64 (k : Int) ∧ s5 = .slice (some ⟨G, 0, none⟩) (n + 1) (n + 1) ∧ Hid (BoolsAt wr G l) ∧ Hid (l = rowsF s (p.take k)) ∧ w.heap.size ≤ G ∧ Hid (Below w.heap.size w wr))
  case atStart => exact ⟨0, G, _, by omega, rfl, rfl, Lib.hid hb1, Lib.hid (by rw [List.take_zero]), hG, Lib.hid y1⟩
  case round =>
    clear hb1 y1 hG
    obtain ⟨k, G, l, hk, rfl, rfl, HB, HL, hG, HY⟩ := hrel
    have hll : l.length = n + 1 := by rw [HL.out, rowsF_len, HN.out]
    obtain ⟨wo, rfl⟩ : ∃ wo : World, wo = wr := ⟨_, rfl⟩
    by_cases hlt : k < p.length
    · obtain ⟨g', rfl⟩ : ∃ g', gk = g' + 1 := ⟨gk - 1, by omega⟩
      obtain ⟨c, hc⟩ : ∃ c, p[k]? = some c := ⟨p[k], List.getElem?_eq_getElem hlt⟩
      have hx : ∀ h, (⟨p.toArray⟩ : ByteArray)[k]'h = c := byte_at hc
      have htk : p.take (k + 1) = p.take k ++ [c] := by rw [List.take_add_one, hc]; rfl
      have hrow : rowsF s (p.take (k + 1)) = nextTo s c l (n + 1) := by rw [htk, rowsF_snoc, ← HL.out]; unfold rowN; rw [HN.out]
      have HR := Lib.hid hrow
      have HLL := Lib.hid hll
      have hkz : (k : Int) < (p.length : Int) := by omega
      clear hrow htk hc hll
      by_cases h42 : c = 42
      · subst h42
        go_upto_region 8 with (at_make; refine wpList_make_row _ rfl _ _ 86 rfl 4 i0 (.bool false) Tryz.underlying86 hi hi0 hi1 rfl .i64 .i64 (n + 1) rfl rfl ?b4_a ?b5_a ?_)
        case b4_a => rw [hi2]; omega
        case b5_a => omega
        have hb2 : BoolsAt (wo.alloc (.cells (madeCells #[.bool false] (n + 1)) 4)) wo.heap.size (List.replicate (n + 1) false) := by
          unfold BoolsAt
          rw [← bools_made]
          exact World.heap_alloc_new _ _
        have hbl : BoolsAt (wo.alloc (.cells (madeCells #[.bool false] (n + 1)) 4)) G l := alloc_same HB.out
        have hGl : G < wo.heap.size := (Array.getElem?_eq_some_iff.1 HB.out).1
        have y2 := HY.out.alloc HY.out.size (.cells (madeCells #[.bool false] (n + 1)) 4)
        have hws := HY.out.size
        generalize wo.alloc (.cells (madeCells #[.bool false] (n + 1)) 4) = w2 at hb2 hbl y2 ⊢
        obtain ⟨G2, hGe⟩ : ∃ G2, G2 = wo.heap.size := ⟨_, rfl⟩
        rw [← hGe] at hb2 hGl hws ⊢
        clear hGe
        have HB2 := Lib.hid hb2
        have HBL := Lib.hid hbl
        have HY2 := Lib.hid y2
        clear hb2 hbl y2 HB HY
        go_wp2_with fail
        go_loopg [30] (n + 1) (fun g s30 wx => ∃ k2 : Nat, k2 + g = n + 1 ∧ s30 = .int .i64 (k2 : Int) ∧ Hid (BoolsAt wx G2 (nextTo s 42 l k2 ++ List.replicate g false)) ∧ Hid (BoolsAt wx G l) ∧ Hid (Below w.heap.size w wx))
        case atStart => exact ⟨0, by omega, rfl, Lib.hid (by simpa [nextTo] using HB2.out), HBL, HY2⟩
        case round =>
          clear HB2 HBL HY2
          obtain ⟨k2, hk2, rfl, HB2, HBL, HY2⟩ := hrel
          obtain ⟨wx, rfl⟩ : ∃ wx : World, wx = wr := ⟨_, rfl⟩
          by_cases hlt2 : k2 < n + 1
          · obtain ⟨m, rfl⟩ : ∃ m, gk = m + 1 := ⟨gk - 1, by omega⟩
            obtain ⟨N, hN⟩ : ∃ N, nextTo s 42 l k2 = N := ⟨_, rfl⟩
            have hNl : N.length = k2 := by rw [← hN]; exact nextTo_len _ _ _ _
            have hst := next_step s 42 l k2 m
            rw [hN] at hst
            obtain ⟨r, hr⟩ : ∃ r, cellF [] s 42 l N k2 = r := ⟨_, rfl⟩
            rw [hr] at hst
            rw [hN] at HB2
            have hput := HB2.out.put k2 r
            rw [hst] at hput
            have hbl2 := HBL.out.other (a := ⟨G2, k2, none⟩) (show G ≠ G2 by omega) (.bool r)
            have hy2 := HY2.out.setCell (p := ⟨G2, k2, none⟩) hws (.bool r)
            have HPUT := Lib.hid hput
            have HBL2 := Lib.hid hbl2
            have HY3 := Lib.hid hy2
            have hcell := HB2.out.cell (j := k2) (x := false) (by rw [List.getElem?_append_right (by omega), hNl, Nat.sub_self]; rfl)
            have hfree := HB2.out.free k2
            have hk2z : (k2 : Int) < ((n + 1 : Nat) : Int) := by omega
            have hll := HLL.out
            obtain ⟨b0, hb0⟩ : ∃ b, l[k2]? = some b := ⟨l[k2]'(by omega), List.getElem?_eq_getElem (by omega)⟩
            have hcl := HBL.out.cell hb0
            have hg0 : l.getD k2 false = b0 := by rw [List.getD_eq_getElem?_getD, hb0]; rfl
            have hcN : ∀ j b, N[j]? = some b → wx.cell? ⟨G2, j, none⟩ = some (.bool b) := fun j b hj => HB2.out.cell (by rw [List.getElem?_append_left (List.getElem?_eq_some_iff.1 hj).1]; exact hj)
            have HCN := Lib.hid hcN
            clear hput hbl2 hy2 hst hN hll hb0 hcN
            have hwx : IntKind.i64.wrap ((k2 : Int) + 1) = ((k2 + 1 : Nat) : Int) := by rw [IntWalk.i64_in _ (by omega)]; omega
            have cC := containsB_any G (n + 1) (k2 + 1) l wx HBL.out (by rw [HLL.out]; omega) (by rw [HLL.out]; omega)
            have hcv : decide (true ∈ l.take (k2 + 1)) = r := by
              rw [← hr]
              unfold cellF
              rw [if_pos rfl, Bool.eq_iff_iff, decide_eq_true_eq, List.contains_iff_mem]
            rw [hcv] at cC
            clear hcv hr hg0 hcl hNl HCN
            go_wp2_with (go_at_call 47; ((with_reducible refine cC.mono ?_); rintro e w9 ⟨rfl, rfl⟩))
            go_roundg m
            case measure => omega
            case rel => exact ⟨k2 + 1, by omega, by go_num, HPUT, HBL2, HY3⟩
          · obtain rfl : k2 = n + 1 := by omega
            obtain rfl : gk = 0 := by omega
            have HFIN : Hid (BoolsAt wx G2 (nextTo s 42 l (n + 1))) := Lib.hid (by simpa using HB2.out)
            go_wp2_with fail
            go_roundg g'
            case measure => omega
            case rel => exact ⟨k + 1, G2, _, by omega, by go_num, rfl, HFIN, Lib.hid HR.out.symm, hws, HY2⟩
      · by_cases h37 : c = 37
        · subst h37
          clear h42
          go_upto_region 8 with (at_make; refine wpList_make_row _ rfl _ _ 86 rfl 4 i0 (.bool false) Tryz.underlying86 hi hi0 hi1 rfl .i64 .i64 (n + 1) rfl rfl ?b4_b ?b5_b ?_)
          case b4_b => rw [hi2]; omega
          case b5_b => omega
          have hb2 : BoolsAt (wo.alloc (.cells (madeCells #[.bool false] (n + 1)) 4)) wo.heap.size (List.replicate (n + 1) false) := by
            unfold BoolsAt
            rw [← bools_made]
            exact World.heap_alloc_new _ _
          have hbl : BoolsAt (wo.alloc (.cells (madeCells #[.bool false] (n + 1)) 4)) G l := alloc_same HB.out
          have hGl : G < wo.heap.size := (Array.getElem?_eq_some_iff.1 HB.out).1
          have y2 := HY.out.alloc HY.out.size (.cells (madeCells #[.bool false] (n + 1)) 4)
          have hws := HY.out.size
          generalize wo.alloc (.cells (madeCells #[.bool false] (n + 1)) 4) = w2 at hb2 hbl y2 ⊢
          obtain ⟨G2, hGe⟩ : ∃ G2, G2 = wo.heap.size := ⟨_, rfl⟩
          rw [← hGe] at hb2 hGl hws ⊢
          clear hGe
          have HB2 := Lib.hid hb2
          have HBL := Lib.hid hbl
          have HY2 := Lib.hid y2
          clear hb2 hbl y2 HB HY
          go_wp2_with fail
          go_loopg [30] (n + 1) (fun g s30 wx => ∃ k2 : Nat, k2 + g = n + 1 ∧ s30 = .int .i64 (k2 : Int) ∧ Hid (BoolsAt wx G2 (nextTo s 37 l k2 ++ List.replicate g false)) ∧ Hid (BoolsAt wx G l) ∧ Hid (Below w.heap.size w wx))
          case atStart => exact ⟨0, by omega, rfl, Lib.hid (by simpa [nextTo] using HB2.out), HBL, HY2⟩
          case round =>
            clear HB2 HBL HY2
            obtain ⟨k2, hk2, rfl, HB2, HBL, HY2⟩ := hrel
            obtain ⟨wx, rfl⟩ : ∃ wx : World, wx = wr := ⟨_, rfl⟩
            by_cases hlt2 : k2 < n + 1
            · obtain ⟨m, rfl⟩ : ∃ m, gk = m + 1 := ⟨gk - 1, by omega⟩
              obtain ⟨N, hN⟩ : ∃ N, nextTo s 37 l k2 = N := ⟨_, rfl⟩
              have hNl : N.length = k2 := by rw [← hN]; exact nextTo_len _ _ _ _
              have hst := next_step s 37 l k2 m
              rw [hN] at hst
              obtain ⟨r, hr⟩ : ∃ r, cellF [] s 37 l N k2 = r := ⟨_, rfl⟩
              rw [hr] at hst
              rw [hN] at HB2
              have hput := HB2.out.put k2 r
              rw [hst] at hput
              have hbl2 := HBL.out.other (a := ⟨G2, k2, none⟩) (show G ≠ G2 by omega) (.bool r)
              have hy2 := HY2.out.setCell (p := ⟨G2, k2, none⟩) hws (.bool r)
              have HPUT := Lib.hid hput
              have HBL2 := Lib.hid hbl2
              have HY3 := Lib.hid hy2
              have hcell := HB2.out.cell (j := k2) (x := false) (by rw [List.getElem?_append_right (by omega), hNl, Nat.sub_self]; rfl)
              have hfree := HB2.out.free k2
              have hk2z : (k2 : Int) < ((n + 1 : Nat) : Int) := by omega
              have hll := HLL.out
              obtain ⟨b0, hb0⟩ : ∃ b, l[k2]? = some b := ⟨l[k2]'(by omega), List.getElem?_eq_getElem (by omega)⟩
              have hcl := HBL.out.cell hb0
              have hg0 : l.getD k2 false = b0 := by rw [List.getD_eq_getElem?_getD, hb0]; rfl
              have hcN : ∀ j b, N[j]? = some b → wx.cell? ⟨G2, j, none⟩ = some (.bool b) := fun j b hj => HB2.out.cell (by rw [List.getElem?_append_left (List.getElem?_eq_some_iff.1 hj).1]; exact hj)
              have HCN := Lib.hid hcN
              clear hput hbl2 hy2 hst hN hll hb0 hcN
              cases b0 with
              | true =>
                obtain rfl : r = true := by
                  rw [← hr]; unfold cellF
                  rw [if_neg (by decide), if_pos rfl, hg0]; rfl
                clear hr hg0 hNl HCN
                go_wp2_with fail
                go_roundg m
                case measure => omega
                case rel => exact ⟨k2 + 1, by omega, by go_num, HPUT, HBL2, HY3⟩
              | false =>
                rcases k2 with _ | j
                · obtain rfl : r = false := by
                    rw [← hr]; unfold cellF
                    rw [if_neg (by decide), if_pos rfl, hg0]; rfl
                  clear hr hg0 hNl HCN
                  go_wp2_with fail
                  go_roundg m
                  case measure => omega
                  case rel => exact ⟨1, by omega, by go_num, HPUT, HBL2, HY3⟩
                · have hjn : j < N.length := by omega
                  obtain ⟨b1, hb1⟩ : ∃ b, N[j]? = some b := ⟨N[j], List.getElem?_eq_getElem hjn⟩
                  have hc1 := HCN.out j b1 hb1
                  have hg1 : N.getD j false = b1 := by rw [List.getD_eq_getElem?_getD, hb1]; rfl
                  have hjs : j < s.length := by rw [HN.out]; omega
                  obtain ⟨d, hd⟩ : ∃ d, s[j]? = some d := ⟨s[j], List.getElem?_eq_getElem hjs⟩
                  have hgd : s.getD j 0 = d := by rw [List.getD_eq_getElem?_getD, hd]; rfl
                  have hxd : ∀ h, (⟨s.toArray⟩ : ByteArray)[j]'h = d := byte_at hd
                  have hjz : (j : Int) < (n : Int) := by omega
                  have hrv : r = (b1 && !(d == 47)) := by
                    rw [← hr]; unfold cellF
                    rw [if_neg (by decide), if_pos rfl, hg0, Nat.add_sub_cancel, hg1, hgd, decide_eq_true (Nat.succ_pos j)]; simp
                  clear hr hg0 hNl HCN hb1 hg1 hd hgd hjn hjs
                  cases b1 with
                  | false =>
                    obtain rfl : r = false := by rw [hrv]; rfl
                    clear hrv
                    go_wp2_with fail
                    go_roundg m
                    case measure => omega
                    case rel => exact ⟨j + 1 + 1, by omega, by go_num, HPUT, HBL2, HY3⟩
                  | true =>
                    by_cases h47 : (d.toNat : Int) = 47
                    · have hd47 : d = 47 := UInt8.toNat_inj.1 (by show d.toNat = 47; omega)
                      subst hd47
                      obtain rfl : r = false := by rw [hrv]; rfl
                      clear hrv
                      go_wp2_with fail
                      go_roundg m
                      case measure => omega
                      case rel => exact ⟨j + 1 + 1, by omega, by go_num, HPUT, HBL2, HY3⟩
                    · have h47b : ((d.toNat : Int) == 47) = false := by rw [beq_eq_false_iff_ne]; exact h47
                      have h47c : ((d.toNat : Int) != 47) = true := by rw [bne, h47b]; rfl
                      obtain rfl : r = true := by
                        rw [hrv]
                        have : (d == 47) = false := by rw [beq_eq_false_iff_ne]; intro e; exact h47 (by rw [e]; rfl)
                        rw [this]; rfl
                      clear hrv
                      go_wp2_with fail
                      go_roundg m
                      case measure => omega
                      case rel => exact ⟨j + 1 + 1, by omega, by go_num, HPUT, HBL2, HY3⟩
            · obtain rfl : k2 = n + 1 := by omega
              obtain rfl : gk = 0 := by omega
              have HFIN : Hid (BoolsAt wx G2 (nextTo s 37 l (n + 1))) := Lib.hid (by simpa using HB2.out)
              go_wp2_with fail
              go_roundg g'
              case measure => omega
              case rel => exact ⟨k + 1, G2, _, by omega, by go_num, rfl, HFIN, Lib.hid HR.out.symm, hws, HY2⟩
        · have h42b : ((c.toNat : Int) == 42) = false := by
            rw [beq_eq_false_iff_ne]; intro e; exact h42 (UInt8.toNat_inj.1 (by show c.toNat = 42; omega))
          have h37b : ((c.toNat : Int) == 37) = false := by
            rw [beq_eq_false_iff_ne]; intro e; exact h37 (UInt8.toNat_inj.1 (by show c.toNat = 37; omega))
          go_upto_region 8 with (at_make; refine wpList_make_row _ rfl _ _ 86 rfl 4 i0 (.bool false) Tryz.underlying86 hi hi0 hi1 rfl .i64 .i64 (n + 1) rfl rfl ?b4_c ?b5_c ?_)
          case b4_c => rw [hi2]; omega
          case b5_c => omega
          have hb2 : BoolsAt (wo.alloc (.cells (madeCells #[.bool false] (n + 1)) 4)) wo.heap.size (List.replicate (n + 1) false) := by
            unfold BoolsAt
            rw [← bools_made]
            exact World.heap_alloc_new _ _
          have hbl : BoolsAt (wo.alloc (.cells (madeCells #[.bool false] (n + 1)) 4)) G l := alloc_same HB.out
          have hGl : G < wo.heap.size := (Array.getElem?_eq_some_iff.1 HB.out).1
          have y2 := HY.out.alloc HY.out.size (.cells (madeCells #[.bool false] (n + 1)) 4)
          have hws := HY.out.size
          generalize wo.alloc (.cells (madeCells #[.bool false] (n + 1)) 4) = w2 at hb2 hbl y2 ⊢
          obtain ⟨G2, hGe⟩ : ∃ G2, G2 = wo.heap.size := ⟨_, rfl⟩
          rw [← hGe] at hb2 hGl hws ⊢
          clear hGe
          have HB2 := Lib.hid hb2
          have HBL := Lib.hid hbl
          have HY2 := Lib.hid y2
          clear hb2 hbl y2 HB HY
          go_wp2_with fail
          go_loopg [30] (n + 1) (fun g s30 wx => ∃ k2 : Nat, k2 + g = n + 1 ∧ s30 = .int .i64 (k2 : Int) ∧ Hid (BoolsAt wx G2 (nextTo s c l k2 ++ List.replicate g false)) ∧ Hid (BoolsAt wx G l) ∧ Hid (Below w.heap.size w wx))
          case atStart => exact ⟨0, by omega, rfl, Lib.hid (by simpa [nextTo] using HB2.out), HBL, HY2⟩
          case round =>
            clear HB2 HBL HY2
            obtain ⟨k2, hk2, rfl, HB2, HBL, HY2⟩ := hrel
            obtain ⟨wx, rfl⟩ : ∃ wx : World, wx = wr := ⟨_, rfl⟩
            by_cases hlt2 : k2 < n + 1
            · obtain ⟨m, rfl⟩ : ∃ m, gk = m + 1 := ⟨gk - 1, by omega⟩
              obtain ⟨N, hN⟩ : ∃ N, nextTo s c l k2 = N := ⟨_, rfl⟩
              have hNl : N.length = k2 := by rw [← hN]; exact nextTo_len _ _ _ _
              have hst := next_step s c l k2 m
              rw [hN] at hst
              obtain ⟨r, hr⟩ : ∃ r, cellF [] s c l N k2 = r := ⟨_, rfl⟩
              rw [hr] at hst
              rw [hN] at HB2
              have hput := HB2.out.put k2 r
              rw [hst] at hput
              have hbl2 := HBL.out.other (a := ⟨G2, k2, none⟩) (show G ≠ G2 by omega) (.bool r)
              have hy2 := HY2.out.setCell (p := ⟨G2, k2, none⟩) hws (.bool r)
              have HPUT := Lib.hid hput
              have HBL2 := Lib.hid hbl2
              have HY3 := Lib.hid hy2
              have hcell := HB2.out.cell (j := k2) (x := false) (by rw [List.getElem?_append_right (by omega), hNl, Nat.sub_self]; rfl)
              have hfree := HB2.out.free k2
              have hk2z : (k2 : Int) < ((n + 1 : Nat) : Int) := by omega
              have hll := HLL.out
              obtain ⟨b0, hb0⟩ : ∃ b, l[k2]? = some b := ⟨l[k2]'(by omega), List.getElem?_eq_getElem (by omega)⟩
              have hcl := HBL.out.cell hb0
              have hg0 : l.getD k2 false = b0 := by rw [List.getD_eq_getElem?_getD, hb0]; rfl
              have hcN : ∀ j b, N[j]? = some b → wx.cell? ⟨G2, j, none⟩ = some (.bool b) := fun j b hj => HB2.out.cell (by rw [List.getElem?_append_left (List.getElem?_eq_some_iff.1 hj).1]; exact hj)
              have HCN := Lib.hid hcN
              clear hput hbl2 hy2 hst hN hll hb0 hcN
              rcases k2 with _ | j
              · obtain rfl : r = false := by
                  rw [← hr]; unfold cellF
                  rw [if_neg h42, if_neg h37]; rfl
                clear hr hg0 hNl HCN
                go_wp2_with fail
                go_roundg m
                case measure => omega
                case rel => exact ⟨1, by omega, by go_num, HPUT, HBL2, HY3⟩
              · obtain ⟨b1, hb1⟩ : ∃ b, l[j]? = some b := ⟨l[j]'(by have := HLL.out; omega), List.getElem?_eq_getElem (by have := HLL.out; omega)⟩
                have hc1 := HBL.out.cell hb1
                have hg1 : l.getD j false = b1 := by rw [List.getD_eq_getElem?_getD, hb1]; rfl
                have hjs : j < s.length := by rw [HN.out]; omega
                obtain ⟨d, hd⟩ : ∃ d, s[j]? = some d := ⟨s[j], List.getElem?_eq_getElem hjs⟩
                have hgd : s.getD j 0 = d := by rw [List.getD_eq_getElem?_getD, hd]; rfl
                have hxd : ∀ h, (⟨s.toArray⟩ : ByteArray)[j]'h = d := byte_at hd
                have hjz : (j : Int) < (n : Int) := by omega
                have hrv : r = (b1 && (d == c)) := by
                  rw [← hr]; unfold cellF
                  rw [if_neg h42, if_neg h37, Nat.add_sub_cancel, hg1, hgd, decide_eq_true (Nat.succ_pos j)]; simp
                clear hr hg0 hNl HCN hb1 hg1 hd hgd hjs
                cases b1 with
                | false =>
                  obtain rfl : r = false := by rw [hrv]; rfl
                  clear hrv
                  go_wp2_with fail
                  go_roundg m
                  case measure => omega
                  case rel => exact ⟨j + 1 + 1, by omega, by go_num, HPUT, HBL2, HY3⟩
                | true =>
                  have hdc : ((d.toNat : Int) == (c.toNat : Int)) = r := by
                    rw [hrv, Bool.true_and, Bool.eq_iff_iff, beq_iff_eq, beq_iff_eq]
                    exact ⟨fun e => UInt8.toNat_inj.1 (by omega), fun e => by rw [e]⟩
                  have hdd : decide ((d.toNat : Int) = (c.toNat : Int)) = r := by rw [← hdc, Bool.eq_iff_iff, beq_iff_eq, decide_eq_true_eq]
                  clear hrv
                  go_wp2_with fail
                  go_roundg m
                  case measure => omega
                  case rel => exact ⟨j + 1 + 1, by omega, by go_num, HPUT, HBL2, HY3⟩
            · obtain rfl : k2 = n + 1 := by omega
              obtain rfl : gk = 0 := by omega
              have HFIN : Hid (BoolsAt wx G2 (nextTo s c l (n + 1))) := Lib.hid (by simpa using HB2.out)
              go_wp2_with fail
              go_roundg g'
              case measure => omega
              case rel => exact ⟨k + 1, G2, _, by omega, by go_num, rfl, HFIN, Lib.hid HR.out.symm, hws, HY2⟩
    · obtain rfl : k = p.length := by omega
      rw [List.take_length] at HL
      obtain ⟨b, hb⟩ : ∃ b, l[n]? = some b := ⟨l[n]'(by omega), List.getElem?_eq_getElem (by omega)⟩
      have hcb := HB.out.cell hb
      have hv : (rowsF s p).getD n false = b := by rw [← HL.out, List.getD_eq_getElem?_getD, hb]; rfl
      have HV := Lib.hid hv
      clear hb hll hv
      go_wp2_with fail
      go_ret
      exact ⟨by rw [HV.out]; rfl, HY.out⟩
end Go.Proofs.YtdlfbhbgemoelaaGreatDoor
