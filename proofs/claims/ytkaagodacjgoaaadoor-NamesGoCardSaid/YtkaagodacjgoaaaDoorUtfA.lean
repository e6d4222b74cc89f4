/- The walks over the small functions of package utf7: each returns what its plain function says. -/
import Derived.Test.YtkaagodacjgoaaaDoorRows
import Derived.Test.YtkaagodacjgoaaaDoorPUtf
import Derived.Test.YtkaagodacjgoaaaDoorKit
namespace Go.Proofs.YtkaagodacjgoaaaDoor
open Go.RowKit

def runeVals (l : List Nat) : List Value := l.map fun (r : Nat) => .int .i32 (r : Int)
theorem u8_info : (Tryd.prog.info? 5).map (fun i => (i.zero, i.size, i.bytes)) = some (some (.int .u8 0), 1, 1) := by kernel_rfl
theorem let_getF : ∀ x : Fin 64, ({ data := #[65, 66, 67, 68, 69, 70, 71, 72, 73, 74, 75, 76, 77, 78, 79, 80, 81, 82, 83, 84, 85, 86, 87, 88, 89, 90, 97, 98, 99, 100, 101, 102, 103, 104, 105, 106, 107, 108, 109, 110, 111, 112, 113, 114, 115, 116, 117, 118, 119, 120, 121, 122, 48, 49, 50, 51, 52, 53, 54, 55, 56, 57, 43, 44] } : ByteArray)[x.val]'(x.isLt) = lett x.val := by decide
theorem let_get (x : Nat) (h : x < ({ data := #[65, 66, 67, 68, 69, 70, 71, 72, 73, 74, 75, 76, 77, 78, 79, 80, 81, 82, 83, 84, 85, 86, 87, 88, 89, 90, 97, 98, 99, 100, 101, 102, 103, 104, 105, 106, 107, 108, 109, 110, 111, 112, 113, 114, 115, 116, 117, 118, 119, 120, 121, 122, 48, 49, 50, 51, 52, 53, 54, 55, 56, 57, 43, 44] } : ByteArray).size) : ({ data := #[65, 66, 67, 68, 69, 70, 71, 72, 73, 74, 75, 76, 77, 78, 79, 80, 81, 82, 83, 84, 85, 86, 87, 88, 89, 90, 97, 98, 99, 100, 101, 102, 103, 104, 105, 106, 107, 108, 109, 110, 111, 112, 113, 114, 115, 116, 117, 118, 119, 120, 121, 122, 48, 49, 50, 51, 52, 53, 54, 55, 56, 57, 43, 44] } : ByteArray)[x]'h = lett x := let_getF ⟨x, h⟩
def letV (k : Nat) : Value := .int .u8 ((lett k).toNat : Int)

theorem letV_all (vals : List Nat) : vals.map letV = Lib.byteCells (vals.map lett) := by simp [letV, Lib.byteCells]
theorem letV_app (vals : List Nat) (x : Nat) : vals.map letV ++ [Value.int .u8 ((lett x).toNat : Int)] = Lib.byteCells ((vals ++ [x]).map lett) := by simp [letV, Lib.byteCells]

set_option maxHeartbeats 400000 in
theorem plain_yes (r : Int) (w : World) (h1 : 32 ≤ r) (h2 : r ≤ 126) (h3 : r ≠ 38) :
    Calls Tryd.prog 16 #[.int .i32 r] w fun e w' => e = .returned (.bool true) ∧ w = w' := by
  have h4 : (r != 38) = true := by simpa using h3
  go_enter Tryd.func16, Tryd.ntmps16
  go_wp2
  go_ret
  exact ⟨rfl, rfl⟩

set_option maxHeartbeats 400000 in
theorem plain_no (r : Int) (w : World) (h : r < 32 ∨ 126 < r ∨ r = 38) :
    Calls Tryd.prog 16 #[.int .i32 r] w fun e w' => e = .returned (.bool false) ∧ w = w' := by
  by_cases h1 : r < 32
  · go_enter Tryd.func16, Tryd.ntmps16
    go_wp2
    go_ret
    exact ⟨rfl, rfl⟩
  · by_cases h2 : 126 < r
    · go_enter Tryd.func16, Tryd.ntmps16
      go_wp2
      go_ret
      exact ⟨rfl, rfl⟩
    · obtain rfl : r = 38 := by omega
      go_enter Tryd.func16, Tryd.ntmps16
      go_wp2
      go_ret
      exact ⟨rfl, rfl⟩

theorem or_high (x : Int) (h0 : 0 ≤ x) (h : x < 1024) : bits BinOp.or IntKind.u32 55296 x = 55296 + x := by
  obtain ⟨x, rfl⟩ := Int.eq_ofNat_of_zero_le h0
  have := u32_or_nat 55296 x (by omega) (by omega)
  rw [show (55296 : Nat) = 54 * 2 ^ 10 from rfl, or_add 10 54 x (by omega)] at this
  simpa using this
theorem or_low (x : Int) (h0 : 0 ≤ x) (h : x < 1024) : bits BinOp.or IntKind.u32 56320 x = 56320 + x := by
  obtain ⟨x, rfl⟩ := Int.eq_ofNat_of_zero_le h0
  have := u32_or_nat 56320 x (by omega) (by omega)
  rw [show (56320 : Nat) = 55 * 2 ^ 10 from rfl, or_add 10 55 x (by omega)] at this
  simpa using this
theorem and_low (x : Int) (h0 : 0 ≤ x) (h : x < 2147483648) : bits BinOp.and IntKind.i32 x 1023 = x % 1024 := by
  obtain ⟨x, rfl⟩ := Int.eq_ofNat_of_zero_le h0
  have := i32_and_nat x 1023 (by omega) (by omega)
  rw [nat_mask10] at this
  simpa using this

def unitVals (l : List Nat) : List Value := l.map fun (u : Nat) => .int .u32 (u : Int)

set_option maxHeartbeats 400000 in
theorem units_small (r : Int) (w : World) (h0 : 0 ≤ r) (h1 : r < 65536) :
    Calls Tryd.prog 32 #[.int .i32 r] w fun e w' => e = .returned (.slice (some ⟨w.heap.size, 0, none⟩) 1 1) ∧ w' = w.alloc (.cells #[.int .u32 r] 58) := by
  go_enter Tryd.func32, Tryd.ntmps32
  go_wp2
  go_ret
  exact ⟨rfl, rfl⟩
set_option maxHeartbeats 400000 in
theorem units_great (r : Int) (w : World) (h0 : 65536 ≤ r) (h1 : r < 1114112) :
    Calls Tryd.prog 32 #[.int .i32 r] w fun e w' => e = .returned (.slice (some ⟨w.heap.size, 0, none⟩) 2 2) ∧ w' = w.alloc (.cells #[.int .u32 (55296 + (r - 65536) / 1024), .int .u32 (56320 + (r - 65536) % 1024)] 58) := by
  go_enter Tryd.func32, Tryd.ntmps32
  go_wp2
  go_ret
  refine ⟨rfl, ?_⟩
  rw [or_high _ (by omega) (by omega), and_low _ (by omega) (by omega), Int.emod_eq_of_lt (b := 4294967296) (by omega) (by omega), or_low _ (by omega) (by omega)]
theorem units_any (r : Nat) (w : World) (h1 : r ≤ 1114111) :
    Calls Tryd.prog 32 #[.int .i32 (r : Int)] w fun e w' => e = .returned (.slice (some ⟨w.heap.size, 0, none⟩) (unitsOf r).length (unitsOf r).length) ∧ w' = w.alloc (.cells (unitVals (unitsOf r)).toArray 58) := by
  by_cases hr : r < 65536
  · rw [unitsOf_small r hr]
    exact units_small (r : Int) w (by omega) (by omega)
  · rw [unitsOf_great r hr]
    have e1 : ((55296 + (r - 65536) / 1024 : Nat) : Int) = 55296 + ((r : Int) - 65536) / 1024 := by omega
    have e2 : ((56320 + (r - 65536) % 1024 : Nat) : Int) = 56320 + ((r : Int) - 65536) % 1024 := by omega
    simp only [unitVals, List.map_cons, List.map_nil]
    rw [e1, e2]
    exact units_great (r : Int) w (by omega) (by omega)

theorem fin_j {us vals' vals2 : List Nat} {j acc' n' u A x m : Nat} {st : List Nat × Nat × Nat} (hu : us[j]? = some u) (hf : (us.take j).foldl sixStep st = (vals', acc', n')) (hA : A = acc' * 65536 + u) (hE : vals2 = vals' ++ emit 3 A (n' + 16)) (hm : m = (n' + 16) % 6) (hx : x = A % 2 ^ m) :
    Hid ((us.take (j + 1)).foldl sixStep st = (vals2, x, m)) := by
  show (us.take (j + 1)).foldl sixStep st = _
  have : us.take (j + 1) = us.take j ++ [u] := by
    rw [List.take_add_one, hu]; rfl
  rw [this, List.foldl_append, hf, hE, hx, hm, hA]
  rfl
theorem fin_k {rs vals vals' : List Nat} {k r acc n acc' n' : Nat} (hr : rs[k]? = some r) (hf : sixFold ((rs.take k).flatMap unitsOf) = (vals, acc, n)) (hj : (unitsOf r).foldl sixStep (vals, acc, n) = (vals', acc', n')) :
    Hid (sixFold ((rs.take (k + 1)).flatMap unitsOf) = (vals', acc', n')) := by
  show sixFold _ = _
  have : rs.take (k + 1) = rs.take k ++ [r] := by
    rw [List.take_add_one, hr]; rfl
  rw [this, List.flatMap_append]
  unfold sixFold at hf ⊢
  rw [List.foldl_append, hf, ← hj]
  simp
theorem fin_none {us vals : List Nat} {acc : Nat} (h : sixFold us = (vals, acc, 0)) : vals.map lett = (sixes us).map lett := by
  unfold sixes; rw [h]; simp
theorem fin_some {us vals : List Nat} {acc m x : Nat} (h : sixFold us = (vals, acc, m)) (hm : 0 < m) (hx : x = acc * 2 ^ (6 - m) % 64) : vals.map lett ++ [lett x] = (sixes us).map lett := by
  unfold sixes; rw [h, hx]; simp [hm]

set_option maxRecDepth 100000 in
set_option maxHeartbeats 1000000 in
theorem sextets_any (v : Value) (rs : List Nat) (w : World) (hv : RowAt w v (runeVals rs)) (hr : ∀ r ∈ rs, r ≤ 1114111) (hn : rs.length ≤ 1000) (hne : rs ≠ []) :
    Calls Tryd.prog 15 #[v] w fun e w' => e = .returned (.string ⟨((sixes (rs.flatMap unitsOf)).map lett).toArray⟩) ∧ Below w.heap.size w w' := by
  obtain ⟨b, off, cap, rfl, hltb, hc⟩ : ∃ b off cap, v = .slice (some ⟨b, off, none⟩) rs.length cap ∧ b < w.heap.size ∧ ∀ j u, (runeVals rs)[j]? = some u → w.cell? ⟨b, off + j, none⟩ = some u := by
    rcases hv with ⟨_, h⟩ | ⟨b, off, cap, h, hlt, hc⟩
    · simp [runeVals] at h; exact absurd h hne
    · exact ⟨b, off, cap, by simpa [runeVals] using h, hlt, hc⟩
  obtain ⟨us, hus⟩ : ∃ us, us = rs.flatMap unitsOf := ⟨_, rfl⟩
  have Hc := Lib.hid hc
  clear hc
  go_enter Tryd.func15, Tryd.ntmps15
  go_wp2
  go_loopg [3, 4, 5, 12] rs.length (fun g s3 s4 s5 s12 wr => ∃ (k : Nat) (vals : List Nat) (acc n : Nat), k + g = rs.length ∧ s12 = .int .i64 k ∧ s4 = .int .u32 acc ∧ s5 = .int .i64 n ∧ n < 6 ∧ acc < 2 ^ n ∧ vals.length ≤ 8 * k ∧
    wr.ownsRow w.heap.size 5 1 s3 vals.length (vals.map letV) ∧ Below w.heap.size w wr ∧ Hid (sixFold ((rs.take k).flatMap unitsOf) = (vals, acc, n)))
  case atStart => exact ⟨0, [], 0, 0, by omega, rfl, rfl, rfl, by omega, by simp, by simp, World.ownsRow_nil _ _ _ _, Below.refl _ _, rfl⟩
  case round =>
    obtain ⟨k, vals, acc, n, hk, rfl, rfl, rfl, h6, hacc, hvl, hown, hb, Hf⟩ := hrel
    by_cases hlt : k < rs.length
    · obtain ⟨g', rfl⟩ : ∃ g', gk = g' + 1 := ⟨gk - 1, by omega⟩
      obtain ⟨r, hrk⟩ : ∃ r, rs[k]? = some r := ⟨rs[k], List.getElem?_eq_getElem hlt⟩
      have hr1 : r ≤ 1114111 := hr r (List.mem_of_getElem? hrk)
      have hcell : wr.cell? ⟨b, off + k, none⟩ = some (.int .i32 (r : Int)) := (hb.cell (p := ⟨b, off + k, none⟩) hltb).trans (Hc.out k _ (by simp [runeVals, hrk]))
      have HS : Hid (rs[k]? = some r) := hrk
      clear hrk
      have hr1' := hr1
      have hu := units_any r wr hr1
      clear hr1
      go_wp2_with (go_at_call 32; refine hu.mono ?_; rintro e w' ⟨rfl, rfl⟩)
      clear hu hcell
      have hul : (unitsOf r).length ≤ 2 := by unfold unitsOf; split <;> simp
      obtain ⟨wo, rfl⟩ : ∃ wo : World, wo = wr := ⟨_, rfl⟩
      go_loopg [3, 4, 5, 19] (unitsOf r).length (fun g s3 s4 s5 s19 wr => ∃ (j : Nat) (vals' : List Nat) (acc' n' : Nat), j + g = (unitsOf r).length ∧ s19 = .int .i64 j ∧ s4 = .int .u32 acc' ∧ s5 = .int .i64 n' ∧ n' < 6 ∧ acc' < 2 ^ n' ∧ vals'.length ≤ 8 * k + 4 * j ∧
        wr.ownsRow w.heap.size 5 1 s3 vals'.length (vals'.map letV) ∧ Below w.heap.size w wr ∧ wr.heap[wo.heap.size]? = some (.cells (unitVals (unitsOf r)).toArray 58 (0, 0)) ∧ Hid (((unitsOf r).take j).foldl sixStep (vals, acc, n) = (vals', acc', n')))
      case atStart => exact ⟨0, vals, acc, n, by omega, rfl, rfl, rfl, h6, hacc, by omega, hown.alloc _, hb.alloc hb.size _, World.heap_alloc_new _ _, rfl⟩
      case round =>
        obtain ⟨j, vals', acc', n', hj, rfl, rfl, rfl, h6', hacc', hvl', hown', hb', hU, Hf'⟩ := hrel
        by_cases hltj : j < (unitsOf r).length
        · obtain ⟨g'', rfl⟩ : ∃ g'', gk = g'' + 1 := ⟨gk - 1, by omega⟩
          obtain ⟨u, huj⟩ : ∃ u, (unitsOf r)[j]? = some u := ⟨(unitsOf r)[j], List.getElem?_eq_getElem hltj⟩
          have hcell : wr.cell? ⟨wo.heap.size, j, none⟩ = some (.int .u32 (u : Int)) := by
            rw [Lib.cell_of_heap hU]; simp [unitVals, huj]
          have HU : Hid ((unitsOf r)[j]? = some u) := huj
          clear huj
          have hu16 : u < 65536 := unitsOf_lt r hr1' u (List.mem_of_getElem? HU.out)
          have hacc5 : acc' < 32 := Nat.lt_of_lt_of_le hacc' (Nat.pow_le_pow_right (by decide) (by omega) : 2 ^ n' ≤ 2 ^ 5)
          obtain ⟨A, hA⟩ : ∃ A : Nat, A = acc' * 65536 + u := ⟨_, rfl⟩
          have e4 : bits BinOp.or IntKind.u32 ((acc' : Int) * 65536 % 4294967296) (u : Int) = (A : Int) := by
            rw [Int.emod_eq_of_lt (by omega) (by omega)]
            have := u32_or_nat (acc' * 2 ^ 16) u (by omega) (by omega)
            rw [or_add 16 acc' u (by omega)] at this
            rw [hA, ← this]; simp
          have HA := Lib.hid hA
          have hAl : (A : Int) < 2097152 := by omega
          clear hA hu16 hacc5 hr1'
          go_wp2_with fail
          clear e4
          obtain ⟨wq, rfl⟩ : ∃ wq : World, wq = wr := ⟨_, rfl⟩
          go_loopg [3, 5] 3 (fun g s3 s5 wr => ∃ (vals2 : List Nat) (n2 : Nat), s5 = .int .i64 n2 ∧ n2 < 6 * g + 6 ∧ n2 ≤ 21 ∧ Hid (n2 % 6 = (n' + 16) % 6) ∧ vals2.length + g ≤ 8 * k + 4 * j + 3 ∧
            wr.ownsRow w.heap.size 5 1 s3 vals2.length (vals2.map letV) ∧ Below w.heap.size w wr ∧ wr.heap[wo.heap.size]? = some (.cells (unitVals (unitsOf r)).toArray 58 (0, 0)) ∧ Hid (vals2 ++ emit g A n2 = vals' ++ emit 3 A (n' + 16)))
          case atStart => exact ⟨vals', n' + 16, by go_num, by omega, by omega, rfl, by omega, hown', hb', hU, rfl⟩
          case round =>
            obtain ⟨vals2, n2, rfl, hn2, hn21, Hn2, hv2, hown2, hb2, hU2, He2⟩ := hrel
            by_cases h62 : 6 ≤ n2
            · obtain ⟨g3, rfl⟩ : ∃ g3, gk = g3 + 1 := ⟨gk - 1, by omega⟩
              obtain ⟨x, hx⟩ : ∃ x : Nat, x = A / 2 ^ (n2 - 6) % 64 := ⟨_, rfl⟩
              have e7 : bits BinOp.and IntKind.u32 ((A : Int) / 2 ^ (n2 - 6)) 63 = (x : Int) := by
                have hq : A / 2 ^ (n2 - 6) ≤ A := Nat.div_le_self _ _
                have := u32_and_nat (A / 2 ^ (n2 - 6)) 63 (by omega) (by omega)
                rw [nat_mask6] at this
                rw [hx, ← this]; simp
              have hx64 : (x : Int) < 64 := by omega
              have HX := Lib.hid hx
              clear hx hAl
              have e8 := let_get x
              go_wp2_with (at_builtin; go_must (refine wpList_app1 rfl _ _ 34 rfl 5 Tryd.underlying34 u8_info rfl w.heap.size _ _ _ _ rfl hown2 (.int .u8 ((lett x).toNat : Int)) rfl rfl ?c3 (by decide) ?c5 ?_))
              case c3 => omega
              case c5 => exact hb2.size
              intro v' w1 hown3 hg3 hv3
              have hU3 := app_keeps hU2 (by intro c fz h; cases h) hown2 hg3
              have hb3 := below_app hb2 hb2.size hown2 hg3
              clear e7 e8
              go_wp2
              go_roundg g3
              case measure => omega
              case rel => exact ⟨vals2 ++ [x], n2 - 6, by go_num, by omega, by omega, by have := Hn2.out; show (n2 - 6) % 6 = _; omega, by simp; omega, by simpa [letV] using hown3, hb3, hU3, by
                have h1 := He2.out
                show (vals2 ++ [x]) ++ emit g3 A (n2 - 6) = _
                rw [← h1, HX.out]
                simp [emit, h62]⟩
            · have hn6 : n2 < 6 := by omega
              clear hn2
              have H22 : n2 = (n' + 16) % 6 := by have := Hn2.out; omega
              have HH := Lib.hid H22
              clear H22
              have HE : Hid (vals2 = vals' ++ emit 3 A (n' + 16)) := by
                have h1 := He2.out
                have h2 : emit gk A n2 = [] := by cases gk <;> simp [emit]; omega
                rw [h2, List.append_nil] at h1
                exact h1
              clear He2
              have HAl := Lib.hid hAl
              clear hAl hn21
              have hc6 : n2 = 0 ∨ n2 = 1 ∨ n2 = 2 ∨ n2 = 3 ∨ n2 = 4 ∨ n2 = 5 := by omega
              have e10 := fun (m : Nat) (hm : m < 64) => u32_and_nat A m (by have := HAl.out; omega) (by omega)
              rcases hc6 with rfl | rfl | rfl | rfl | rfl | rfl
              · obtain ⟨x, hx⟩ : ∃ x : Nat, x = A % 2 ^ 0 := ⟨_, rfl⟩
                have e9 : bits BinOp.and IntKind.u32 (A : Int) 0 = (x : Int) := (e10 0 (by decide)).trans (by rw [hx, show (0 : Nat) = 2 ^ 0 - 1 from rfl, Nat.and_two_pow_sub_one_eq_mod])
                have hxl : x < 2 ^ 0 := by rw [hx]; exact Nat.mod_lt _ (Nat.two_pow_pos _)
                have HX := Lib.hid hx
                have HXl := Lib.hid hxl
                clear e10 hx hxl
                go_wp2_with fail
                go_roundg g''
                case measure => omega
                case rel => exact ⟨j + 1, vals2, x, 0, by omega, by go_num, rfl, rfl, by omega, HXl.out, by omega, hown2, hb2, hU2, fin_j HU.out Hf'.out HA.out HE.out HH.out HX.out⟩
              · obtain ⟨x, hx⟩ : ∃ x : Nat, x = A % 2 ^ 1 := ⟨_, rfl⟩
                have e9 : bits BinOp.and IntKind.u32 (A : Int) 1 = (x : Int) := (e10 1 (by decide)).trans (by rw [hx, show (1 : Nat) = 2 ^ 1 - 1 from rfl, Nat.and_two_pow_sub_one_eq_mod])
                have hxl : x < 2 ^ 1 := by rw [hx]; exact Nat.mod_lt _ (Nat.two_pow_pos _)
                have HX := Lib.hid hx
                have HXl := Lib.hid hxl
                clear e10 hx hxl
                go_wp2_with fail
                go_roundg g''
                case measure => omega
                case rel => exact ⟨j + 1, vals2, x, 1, by omega, by go_num, rfl, rfl, by omega, HXl.out, by omega, hown2, hb2, hU2, fin_j HU.out Hf'.out HA.out HE.out HH.out HX.out⟩
              · obtain ⟨x, hx⟩ : ∃ x : Nat, x = A % 2 ^ 2 := ⟨_, rfl⟩
                have e9 : bits BinOp.and IntKind.u32 (A : Int) 3 = (x : Int) := (e10 3 (by decide)).trans (by rw [hx, show (3 : Nat) = 2 ^ 2 - 1 from rfl, Nat.and_two_pow_sub_one_eq_mod])
                have hxl : x < 2 ^ 2 := by rw [hx]; exact Nat.mod_lt _ (Nat.two_pow_pos _)
                have HX := Lib.hid hx
                have HXl := Lib.hid hxl
                clear e10 hx hxl
                go_wp2_with fail
                go_roundg g''
                case measure => omega
                case rel => exact ⟨j + 1, vals2, x, 2, by omega, by go_num, rfl, rfl, by omega, HXl.out, by omega, hown2, hb2, hU2, fin_j HU.out Hf'.out HA.out HE.out HH.out HX.out⟩
              · obtain ⟨x, hx⟩ : ∃ x : Nat, x = A % 2 ^ 3 := ⟨_, rfl⟩
                have e9 : bits BinOp.and IntKind.u32 (A : Int) 7 = (x : Int) := (e10 7 (by decide)).trans (by rw [hx, show (7 : Nat) = 2 ^ 3 - 1 from rfl, Nat.and_two_pow_sub_one_eq_mod])
                have hxl : x < 2 ^ 3 := by rw [hx]; exact Nat.mod_lt _ (Nat.two_pow_pos _)
                have HX := Lib.hid hx
                have HXl := Lib.hid hxl
                clear e10 hx hxl
                go_wp2_with fail
                go_roundg g''
                case measure => omega
                case rel => exact ⟨j + 1, vals2, x, 3, by omega, by go_num, rfl, rfl, by omega, HXl.out, by omega, hown2, hb2, hU2, fin_j HU.out Hf'.out HA.out HE.out HH.out HX.out⟩
              · obtain ⟨x, hx⟩ : ∃ x : Nat, x = A % 2 ^ 4 := ⟨_, rfl⟩
                have e9 : bits BinOp.and IntKind.u32 (A : Int) 15 = (x : Int) := (e10 15 (by decide)).trans (by rw [hx, show (15 : Nat) = 2 ^ 4 - 1 from rfl, Nat.and_two_pow_sub_one_eq_mod])
                have hxl : x < 2 ^ 4 := by rw [hx]; exact Nat.mod_lt _ (Nat.two_pow_pos _)
                have HX := Lib.hid hx
                have HXl := Lib.hid hxl
                clear e10 hx hxl
                go_wp2_with fail
                go_roundg g''
                case measure => omega
                case rel => exact ⟨j + 1, vals2, x, 4, by omega, by go_num, rfl, rfl, by omega, HXl.out, by omega, hown2, hb2, hU2, fin_j HU.out Hf'.out HA.out HE.out HH.out HX.out⟩
              · obtain ⟨x, hx⟩ : ∃ x : Nat, x = A % 2 ^ 5 := ⟨_, rfl⟩
                have e9 : bits BinOp.and IntKind.u32 (A : Int) 31 = (x : Int) := (e10 31 (by decide)).trans (by rw [hx, show (31 : Nat) = 2 ^ 5 - 1 from rfl, Nat.and_two_pow_sub_one_eq_mod])
                have hxl : x < 2 ^ 5 := by rw [hx]; exact Nat.mod_lt _ (Nat.two_pow_pos _)
                have HX := Lib.hid hx
                have HXl := Lib.hid hxl
                clear e10 hx hxl
                go_wp2_with fail
                go_roundg g''
                case measure => omega
                case rel => exact ⟨j + 1, vals2, x, 5, by omega, by go_num, rfl, rfl, by omega, HXl.out, by omega, hown2, hb2, hU2, fin_j HU.out Hf'.out HA.out HE.out HH.out HX.out⟩
        · have hjl : j = (unitsOf r).length := by omega
          have HJ := Lib.hid hjl
          have hj2 : j ≤ 2 := by omega
          clear hj hjl
          go_wp2_with fail
          go_roundg g'
          case measure => omega
          case rel => exact ⟨k + 1, vals', acc', n', by omega, by go_num, rfl, rfl, h6', hacc', by omega, hown', hb', fin_k HS.out Hf.out (by rw [← Hf'.out, HJ.out, List.take_length])⟩
    · have hkl : rs.take k = rs := List.take_of_length_le (by omega)
      have HK := Lib.hid hkl
      have hvl2 : vals.length ≤ 8000 := by omega
      clear hkl hk
      have hc6 : n = 0 ∨ n = 1 ∨ n = 2 ∨ n = 3 ∨ n = 4 ∨ n = 5 := by omega
      have hcv0 := run_bytes_text (P := Tryd.prog) (l := vals.map lett) (rowAt_of_owns (by rw [letV_all] at hown; exact hown)) 34 9 5 Tryd.underlying34 Tryd.underlying5 Tryd.underlying9
      rcases hc6 with rfl | rfl | rfl | rfl | rfl | rfl
      · clear hacc
        go_wp2_with fail
        go_ret
        exact ⟨congrArg Ending.returned (congrArg Value.string (congrArg ByteArray.mk (congrArg List.toArray (fin_none (by have h := Hf.out; rwa [HK.out] at h))))), hb⟩
      · obtain ⟨x, hx⟩ : ∃ x : Nat, x = acc * 2 ^ (6 - 1) % 64 := ⟨_, rfl⟩
        have e7 : bits BinOp.and IntKind.u32 ((acc : Int) * 32 % 4294967296) 63 = (x : Int) := by
          rw [Int.emod_eq_of_lt (by omega) (by omega)]
          have := u32_and_nat (acc * 32) 63 (by omega) (by omega)
          rw [nat_mask6] at this
          rw [hx, show 2 ^ (6 - 1) = 32 from rfl, ← this]; simp
        have hx64 : (x : Int) < 64 := by omega
        have HX := Lib.hid hx
        clear hx hacc
        have e8 := let_get x
        go_wp2_with (at_builtin; go_must (refine wpList_app1 rfl _ _ 34 rfl 5 Tryd.underlying34 u8_info rfl w.heap.size _ _ _ _ rfl hown (.int .u8 ((lett x).toNat : Int)) rfl rfl ?c3 (by decide) ?c5 ?_))
        case c3 => omega
        case c5 => exact hb.size
        intro v' w1 hown3 hg3 hv3
        have hb3 := below_app hb hb.size hown hg3
        have hcv := run_bytes_text (P := Tryd.prog) (l := (vals ++ [x]).map lett) (rowAt_of_owns (by rw [letV_app] at hown3; exact hown3)) 34 9 5 Tryd.underlying34 Tryd.underlying5 Tryd.underlying9
        clear e7 e8
        go_wp2_with fail
        go_ret
        exact ⟨congrArg Ending.returned (congrArg Value.string (congrArg ByteArray.mk (congrArg List.toArray (fin_some (by have h := Hf.out; rwa [HK.out] at h) (by decide) HX.out)))), hb3⟩
      · obtain ⟨x, hx⟩ : ∃ x : Nat, x = acc * 2 ^ (6 - 2) % 64 := ⟨_, rfl⟩
        have e7 : bits BinOp.and IntKind.u32 ((acc : Int) * 16 % 4294967296) 63 = (x : Int) := by
          rw [Int.emod_eq_of_lt (by omega) (by omega)]
          have := u32_and_nat (acc * 16) 63 (by omega) (by omega)
          rw [nat_mask6] at this
          rw [hx, show 2 ^ (6 - 2) = 16 from rfl, ← this]; simp
        have hx64 : (x : Int) < 64 := by omega
        have HX := Lib.hid hx
        clear hx hacc
        have e8 := let_get x
        go_wp2_with (at_builtin; go_must (refine wpList_app1 rfl _ _ 34 rfl 5 Tryd.underlying34 u8_info rfl w.heap.size _ _ _ _ rfl hown (.int .u8 ((lett x).toNat : Int)) rfl rfl ?c3 (by decide) ?c5 ?_))
        case c3 => omega
        case c5 => exact hb.size
        intro v' w1 hown3 hg3 hv3
        have hb3 := below_app hb hb.size hown hg3
        have hcv := run_bytes_text (P := Tryd.prog) (l := (vals ++ [x]).map lett) (rowAt_of_owns (by rw [letV_app] at hown3; exact hown3)) 34 9 5 Tryd.underlying34 Tryd.underlying5 Tryd.underlying9
        clear e7 e8
        go_wp2_with fail
        go_ret
        exact ⟨congrArg Ending.returned (congrArg Value.string (congrArg ByteArray.mk (congrArg List.toArray (fin_some (by have h := Hf.out; rwa [HK.out] at h) (by decide) HX.out)))), hb3⟩
      · obtain ⟨x, hx⟩ : ∃ x : Nat, x = acc * 2 ^ (6 - 3) % 64 := ⟨_, rfl⟩
        have e7 : bits BinOp.and IntKind.u32 ((acc : Int) * 8 % 4294967296) 63 = (x : Int) := by
          rw [Int.emod_eq_of_lt (by omega) (by omega)]
          have := u32_and_nat (acc * 8) 63 (by omega) (by omega)
          rw [nat_mask6] at this
          rw [hx, show 2 ^ (6 - 3) = 8 from rfl, ← this]; simp
        have hx64 : (x : Int) < 64 := by omega
        have HX := Lib.hid hx
        clear hx hacc
        have e8 := let_get x
        go_wp2_with (at_builtin; go_must (refine wpList_app1 rfl _ _ 34 rfl 5 Tryd.underlying34 u8_info rfl w.heap.size _ _ _ _ rfl hown (.int .u8 ((lett x).toNat : Int)) rfl rfl ?c3 (by decide) ?c5 ?_))
        case c3 => omega
        case c5 => exact hb.size
        intro v' w1 hown3 hg3 hv3
        have hb3 := below_app hb hb.size hown hg3
        have hcv := run_bytes_text (P := Tryd.prog) (l := (vals ++ [x]).map lett) (rowAt_of_owns (by rw [letV_app] at hown3; exact hown3)) 34 9 5 Tryd.underlying34 Tryd.underlying5 Tryd.underlying9
        clear e7 e8
        go_wp2_with fail
        go_ret
        exact ⟨congrArg Ending.returned (congrArg Value.string (congrArg ByteArray.mk (congrArg List.toArray (fin_some (by have h := Hf.out; rwa [HK.out] at h) (by decide) HX.out)))), hb3⟩
      · obtain ⟨x, hx⟩ : ∃ x : Nat, x = acc * 2 ^ (6 - 4) % 64 := ⟨_, rfl⟩
        have e7 : bits BinOp.and IntKind.u32 ((acc : Int) * 4 % 4294967296) 63 = (x : Int) := by
          rw [Int.emod_eq_of_lt (by omega) (by omega)]
          have := u32_and_nat (acc * 4) 63 (by omega) (by omega)
          rw [nat_mask6] at this
          rw [hx, show 2 ^ (6 - 4) = 4 from rfl, ← this]; simp
        have hx64 : (x : Int) < 64 := by omega
        have HX := Lib.hid hx
        clear hx hacc
        have e8 := let_get x
        go_wp2_with (at_builtin; go_must (refine wpList_app1 rfl _ _ 34 rfl 5 Tryd.underlying34 u8_info rfl w.heap.size _ _ _ _ rfl hown (.int .u8 ((lett x).toNat : Int)) rfl rfl ?c3 (by decide) ?c5 ?_))
        case c3 => omega
        case c5 => exact hb.size
        intro v' w1 hown3 hg3 hv3
        have hb3 := below_app hb hb.size hown hg3
        have hcv := run_bytes_text (P := Tryd.prog) (l := (vals ++ [x]).map lett) (rowAt_of_owns (by rw [letV_app] at hown3; exact hown3)) 34 9 5 Tryd.underlying34 Tryd.underlying5 Tryd.underlying9
        clear e7 e8
        go_wp2_with fail
        go_ret
        exact ⟨congrArg Ending.returned (congrArg Value.string (congrArg ByteArray.mk (congrArg List.toArray (fin_some (by have h := Hf.out; rwa [HK.out] at h) (by decide) HX.out)))), hb3⟩
      · obtain ⟨x, hx⟩ : ∃ x : Nat, x = acc * 2 ^ (6 - 5) % 64 := ⟨_, rfl⟩
        have e7 : bits BinOp.and IntKind.u32 ((acc : Int) * 2 % 4294967296) 63 = (x : Int) := by
          rw [Int.emod_eq_of_lt (by omega) (by omega)]
          have := u32_and_nat (acc * 2) 63 (by omega) (by omega)
          rw [nat_mask6] at this
          rw [hx, show 2 ^ (6 - 5) = 2 from rfl, ← this]; simp
        have hx64 : (x : Int) < 64 := by omega
        have HX := Lib.hid hx
        clear hx hacc
        have e8 := let_get x
        go_wp2_with (at_builtin; go_must (refine wpList_app1 rfl _ _ 34 rfl 5 Tryd.underlying34 u8_info rfl w.heap.size _ _ _ _ rfl hown (.int .u8 ((lett x).toNat : Int)) rfl rfl ?c3 (by decide) ?c5 ?_))
        case c3 => omega
        case c5 => exact hb.size
        intro v' w1 hown3 hg3 hv3
        have hb3 := below_app hb hb.size hown hg3
        have hcv := run_bytes_text (P := Tryd.prog) (l := (vals ++ [x]).map lett) (rowAt_of_owns (by rw [letV_app] at hown3; exact hown3)) 34 9 5 Tryd.underlying34 Tryd.underlying5 Tryd.underlying9
        clear e7 e8
        go_wp2_with fail
        go_ret
        exact ⟨congrArg Ending.returned (congrArg Value.string (congrArg ByteArray.mk (congrArg List.toArray (fin_some (by have h := Hf.out; rwa [HK.out] at h) (by decide) HX.out)))), hb3⟩
end Go.Proofs.YtkaagodacjgoaaaDoor
