/- The walk over seq.Print: it returns how a set is written, or that it may not be. Condition: strconv's table of powers lies as the program's text lays it. -/
import Derived.Test.YtgblgbhfgiajiaaGreatDoorSeqC
import Derived.Test.YtgblgbhfgiajiaaGreatDoorPSeqL
import Derived.Test.YtgblgbhfgiajiaaGreatDoorJoin
import Derived.Test.YtgblgbhfgiajiaaGreatDoorSRowO
namespace Go.Proofs.YtgblgbhfgiajiaaGreatDoor
open Go.RowKit Go.Shelf Go.Sort
set_option linter.unusedSimpArgs false

set_option maxRecDepth 100000 in
set_option maxHeartbeats 2000000 in
theorem textN_any (n : Int) (w : World) (h : okN n = true) (hG : StrG w) : Calls Tryz.prog 14 #[.int .i64 n] w fun e w' => e = .returned (.string ⟨(textN n).toArray⟩) ∧ Below w.heap.size w w' := by
  unfold okN at h
  rw [Bool.and_eq_true, decide_eq_true_eq, decide_eq_true_eq] at h
  unfold textN
  by_cases h0 : n = 0
  · rw [if_pos h0]
    subst h0
    go_enter Tryz.func14, Tryz.ntmps14
    go_wp2_with fail
    go_ret
    exact ⟨rfl, Below.refl _ _⟩
  · rw [if_neg h0]
    have hb : (n == 0) = false := by simpa using h0
    have cI := itoa_any n w (by omega) (by omega) hG
    clear h h0
    go_enter Tryz.func14, Tryz.ntmps14
    go_wp2_with (go_at_call 11; go_loud (((with_reducible refine cI.mono ?_); rintro e w1 ⟨rfl, h1⟩)))
    go_ret
    exact ⟨rfl, h1⟩
/-- what Print brings -/
def PrintR (l : List Rg) (w : World) (e : Ending) (w' : World) : Prop := if rightS l = true then e = .returned (.tuple #[.string ⟨(printS l).toArray⟩, .nilIface]) ∧ Below w.heap.size w w'
  else e = .returned (.tuple #[.string ⟨#[]⟩, .iface 49 (.int .i64 1)]) ∧ Below w.heap.size w w'
set_option maxRecDepth 100000 in
set_option maxHeartbeats 8000000 in
theorem printS_any (v : Value) (l : List Rg) (w : World) (hv : RgRow w v l) (hG : StrG w) : Calls Tryz.prog 6 #[v] w (PrintR l w) := by
  have cR := rightS_any v l w hv
  cases hrs : rightS l with
  | false =>
    have HR : Hid (∀ e w', e = .returned (.tuple #[.string ⟨#[]⟩, .iface 49 (.int .i64 1)]) → Below w.heap.size w w' → PrintR l w e w') := Lib.hid (fun e w' h1 h2 => by unfold PrintR; rw [if_neg (by rw [hrs]; decide)]; exact ⟨h1, h2⟩)
    rw [hrs] at cR
    obtain ⟨ao, cap, rfl, -⟩ := hv
    clear hrs
    go_enter Tryz.func6, Tryz.ntmps6
    go_wp2_with (go_at_call 13; go_loud (((with_reducible refine cR.mono ?_); rintro e w1 ⟨rfl, h1⟩)))
    go_ret2
    exact HR.out _ _ rfl h1
  | true =>
    have HR : Hid (∀ e w', e = .returned (.tuple #[.string ⟨(printS l).toArray⟩, .nilIface]) → Below w.heap.size w w' → PrintR l w e w') := Lib.hid (fun e w' h1 h2 => by unfold PrintR; rw [if_pos hrs]; exact ⟨h1, h2⟩)
    rw [hrs] at cR
    obtain ⟨q1, q2, q3⟩ := right_parts hrs
    have hpl := printS_len hrs
    obtain ⟨ao, cap, rfl, hcap, hcm, hcell⟩ := hv
    have HC := Lib.hid hcell
    have HQ := Lib.hid q3
    have HG := Lib.hid (fun W (h : Below w.heap.size w W) => hG.below h)
    clear hrs hcell q3 hcap hcm q1 hG
    go_enter Tryz.func6, Tryz.ntmps6
    go_wp2_with (go_at_call 13; go_loud (((with_reducible refine cR.mono ?_); rintro e w1 ⟨rfl, y1⟩)))
    have HY := Lib.hid y1
    clear y1 cR
    go_loopg [5, 8, 15] l.length (fun g s5 s8 s15 wr => ∃ (k : Nat) (ov : Value), k + g = l.length ∧ s15 = .int .i64 (k : Int) ∧ ov = s5 ∧ wr.ownsRow w.heap.size 9 1 ov k (((l.take k).map textR).map encStr) ∧ Below w.heap.size w wr)
    case atStart => exact ⟨0, _, by omega, rfl, rfl, (World.ownsRow_nil _ _ _ _), HY.out⟩
    case round =>
      obtain ⟨k, ov, hk, rfl, rfl, hown, hbr⟩ := hrel
      by_cases hlt : k < l.length
      · obtain ⟨g', rfl⟩ : ∃ g', gk = g' + 1 := ⟨gk - 1, by omega⟩
        obtain ⟨r, hr⟩ : ∃ r, l[k]? = some r := ⟨l[k], List.getElem?_eq_getElem hlt⟩
        have htk : l.take (k + 1) = l.take k ++ [r] := by rw [List.take_add_one, hr]; rfl
        obtain ⟨b, off, rfl, hb, c0, c1⟩ := HC.out k r hr
        have d0 := (hbr.cell (p := ⟨b, off + k * 2, none⟩) hb).trans c0
        have d1 := (hbr.cell (p := ⟨b, off + k * 2 + 1, none⟩) hb).trans c1
        obtain ⟨o1, o2⟩ := HQ.out r (List.mem_of_getElem? hr)
        have hltz : (k : Int) < (l.length : Int) := by omega
        have hz := alloc_size wr (.cells #[.int .i64 r.1, .int .i64 r.2] 51)
        have ya := hbr.alloc hbr.size (.cells #[.int .i64 r.1, .int .i64 r.2] 51)
        have HOA := Lib.hid (hown.alloc (.cells #[.int .i64 r.1, .int .i64 r.2] 51))
        have HN := Lib.hid (World.heap_alloc_new wr (.cells #[.int .i64 r.1, .int .i64 r.2] 51))
        have cA := textN_any r.1 (wr.alloc (.cells #[.int .i64 r.1, .int .i64 r.2] 51)) o1 (HG.out _ ya)
        have cB := fun W hW => textN_any r.2 W o2 hW
        have hl1 := textN_len o1
        have hl2 := textN_len o2
        have htr : textR r = if r.2 = r.1 then textN r.1 else textN r.1 ++ ([58] ++ textN r.2) := rfl
        have HTK := Lib.hid htk
        have HYA := Lib.hid ya
        clear c0 c1 htk ya o1 o2 hr hown
        generalize textN r.1 = A at cA hl1 htr
        generalize textN r.2 = Bt at cB hl2 htr
        obtain ⟨a, b2⟩ := r
        dsimp only at *
        have s0 := text_size A
        have s1 := text_size Bt
        by_cases hab : b2 = a
        · have e1 : (b2 != a) = false := by simpa using hab
          have HT : Hid (textR (a, b2) = A) := Lib.hid (by rw [htr, if_pos hab])
          clear hab htr cB
          go_wp2_with (first
            | (go_at_call 14; go_loud (((with_reducible refine cA.mono ?_); rintro e w1 ⟨rfl, h⟩; have y1 := HYA.out.trans (h.mono HYA.out.size); have p1 := owns_same HOA.out (fun j o hj _ => below_same h hj); have hn1 := below_same h HN.out; have n0 := Lib.cell_of_heap hn1 0; have n1 := Lib.cell_of_heap hn1 1; have zz := h.size)))
            | (at_builtin; go_must (refine wpList_app1 rfl _ _ 23 rfl 9 Tryz.underlying23 str_info rfl w.heap.size _ _ _ _ rfl p1 _ rfl rfl ?hn (by decide) ?hb ?_)))
          case hn => omega
          case hb => exact y1.size
          intro v' w2 o2 g2 hv2
          have y2 := below_app y1 y1.size p1 g2
          have o4 : w2.ownsRow w.heap.size 9 1 v' (k + 1) (((l.take k).map textR).map encStr ++ [encStr (textR (a, b2))]) := by
            rw [HT.out, List.map_map, List.map_take]; exact o2
          have o3 : w2.ownsRow w.heap.size 9 1 v' (k + 1) (((l.take (k + 1)).map textR).map encStr) := by
            rw [HTK.out, List.map_append, List.map_append]; exact o4
          go_wp2_with fail
          go_roundg g'
          case measure => omega
          case rel => exact ⟨k + 1, _, by omega, by go_num, rfl, o3, y2⟩
        · have e1 : (b2 != a) = true := by simpa using hab
          have HT : Hid (textR (a, b2) = A ++ ([58] ++ Bt)) := Lib.hid (by rw [htr, if_neg hab])
          obtain ⟨t1, ht1⟩ : ∃ t, t = [58] ++ Bt := ⟨_, rfl⟩
          obtain ⟨t2, ht2⟩ : ∃ t, t = A ++ t1 := ⟨_, rfl⟩
          have a1 : (⟨#[58]⟩ : ByteArray) ++ ⟨Bt.toArray⟩ = ⟨t1.toArray⟩ := by rw [ht1]; exact text_cat [58] Bt
          have a2 : (⟨A.toArray⟩ : ByteArray) ++ ⟨t1.toArray⟩ = ⟨t2.toArray⟩ := by rw [ht2]; exact text_cat A t1
          have s2 := text_size t1
          have l1 : t1.length ≤ 11 := by rw [ht1, List.length_append]; show 1 + _ ≤ _; omega
          rw [← ht1, ← ht2] at HT
          clear hab htr ht1 ht2
          go_wp2_with (first
            | (go_at_call 14; (with_reducible refine cA.mono ?_); rintro e w1 ⟨rfl, h⟩; have y1 := HYA.out.trans (h.mono HYA.out.size); have p1 := owns_same HOA.out (fun j o hj _ => below_same h hj); have hn1 := below_same h HN.out; have n0 := Lib.cell_of_heap hn1 0; have n1 := Lib.cell_of_heap hn1 1; have zz := h.size; have g1 := HG.out _ y1; clear cA)
            | (go_at_call 14; (with_reducible refine (cB _ g1).mono ?_); rintro e w2 ⟨rfl, h2⟩; have y2 := y1.trans (h2.mono y1.size); have p2 := owns_same p1 (fun j o hj _ => below_same h2 hj))
            | (at_builtin; go_must (refine wpList_app1 rfl _ _ 23 rfl 9 Tryz.underlying23 str_info rfl w.heap.size _ _ _ _ rfl p2 _ rfl rfl ?hn (by decide) ?hb ?_)))
          case hn => omega
          case hb => exact y2.size
          intro v' w3 o2 g2 hv2
          have y3 := below_app y2 y2.size p2 g2
          have o4 : w3.ownsRow w.heap.size 9 1 v' (k + 1) (((l.take k).map textR).map encStr ++ [encStr (textR (a, b2))]) := by
            rw [HT.out, List.map_map, List.map_take]; exact o2
          have o3 : w3.ownsRow w.heap.size 9 1 v' (k + 1) (((l.take (k + 1)).map textR).map encStr) := by
            rw [HTK.out, List.map_append, List.map_append]; exact o4
          go_wp2_with fail
          go_roundg g'
          case measure => omega
          case rel => exact ⟨k + 1, _, by omega, by go_num, rfl, o3, y3⟩
      · obtain rfl : k = l.length := by omega
        have cJ := joinS_any 44 ov (l.map textR) wr (srow_own (by rw [List.take_length] at hown; rw [List.length_map]; exact hown)) (by rw [List.length_map]; omega) (by show (printS l).length ≤ _; omega)
        have HB := Lib.hid hbr
        clear hown hbr hk
        go_wp2_with (go_at_call 15; go_loud (((with_reducible refine cJ.mono ?_); rintro e w1 ⟨rfl, h⟩; have y1 := HB.out.trans (h.mono HB.out.size))))
        go_ret2
        exact HR.out _ _ rfl y1
end Go.Proofs.YtgblgbhfgiajiaaGreatDoor
