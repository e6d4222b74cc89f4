/- The walk over wire.text: it returns how a part is written. Conditions: strconv's table of powers and its two errors, and bytealg.MaxLen, lie as the program's text lays them. -/
import Derived.Test.YtbfndlmihijcgaaGreatDoorQuoteA
import Derived.Test.YtbfndlmihijcgaaGreatDoorWireW
import Derived.Test.YtbfndlmihijcgaaGreatDoorPText
import Derived.Test.YtbfndlmihijcgaaGreatDoorJoin
namespace Go.Proofs.YtbfndlmihijcgaaGreatDoor
open Go.RowKit Go.Shelf Go.Sort
set_option linter.unusedSimpArgs false

/-- how a part stands in memory, with the value of its own parts -/
def argV (x : ArgP) (v : Value) : Value := .agg #[.int .i64 (x.kind : Int), .string ⟨x.text.toArray⟩, v]
set_option maxRecDepth 100000 in
set_option maxHeartbeats 8000000 in
theorem text_list_any (n : Nat) (ih : ∀ (x : ArgP) (v : Value) (w : World) (ok : Nat → Prop), sizeA x ≤ n → ReadsA w ok v x.list → (textF x).length ≤ 100000 → WireG w →
      Calls Tryz.prog 18 #[argV x v] w fun e w' => e = .returned (.string ⟨(textF x).toArray⟩) ∧ Below w.heap.size w w')
    (t : List UInt8) (l : List ArgP) (v : Value) (w : World) (ok : Nat → Prop) (hn : sizeL l ≤ n) (hr : ReadsA w ok v l) (hl : (textF (.mk 3 t l)).length ≤ 100000) (hG : WireG w) :
    Calls Tryz.prog 18 #[.agg #[.int .i64 3, .string ⟨t.toArray⟩, v]] w fun e w' => e = .returned (.string ⟨(textF (.mk 3 t l)).toArray⟩) ∧ Below w.heap.size w w' := by
  have hHG := Lib.hid (fun W (h : Below w.heap.size w W) => hG.below h)
  have hJl : (joinF l).length ≤ 99998 := by rw [text_list, List.length_append, List.length_append] at hl; simp only [List.length_cons, List.length_nil] at hl; omega
  have htl := tail_join l
  have hll := tailF_le l
  have hlen : l.length ≤ 100000 := by omega
  have HM : Hid (∀ x ∈ l, (textF x).length ≤ 100000) := Lib.hid (fun x hx => by have := tailF_mem l x hx; omega)
  have HS : Hid (∀ x ∈ l, sizeA x ≤ n) := Lib.hid (fun x hx => by have := size_mem l x hx; omega)
  have HIH := Lib.hid ih
  obtain ⟨ao, cap, rfl⟩ := readsA_slice hr
  have HRd := Lib.hid hr
  have y0 := (Below.refl w.heap.size w).alloc (Nat.le_refl _) (.cells #[.int .i64 3, .string ⟨t.toArray⟩, .slice ao l.length cap] 37)
  have HY := Lib.hid y0
  rw [text_list]
  clear htl hll hl ih hr hn y0
  go_enter Tryz.func18, Tryz.ntmps18
  go_wp2_with fail
  go_loopg [3, 14] l.length (fun g s3 s14 wr => ∃ (k : Nat) (ov : Value), k + g = l.length ∧ s14 = .int .i64 (k : Int) ∧ ov = s3 ∧ wr.ownsRow w.heap.size 9 1 ov k (((l.take k).map textF).map encStr) ∧ Below w.heap.size w wr)
  case atStart => exact ⟨0, _, by omega, rfl, rfl, World.ownsRow_nil _ _ _ _, HY.out⟩
  case round =>
    clear HY
    obtain ⟨k, ov, hk, rfl, rfl, hown, hbr⟩ := hrel
    by_cases hlt : k < l.length
    · obtain ⟨g', rfl⟩ : ∃ g', gk = g' + 1 := ⟨gk - 1, by omega⟩
      obtain ⟨x, hx⟩ : ∃ x, l[k]? = some x := ⟨l[k], List.getElem?_eq_getElem hlt⟩
      have htk : l.take (k + 1) = l.take k ++ [x] := by rw [List.take_add_one, hx]; rfl
      have hxm := List.mem_of_getElem? hx
      obtain ⟨b, off, va, vc, rfl, -, hlc, hcc, hb, c0, c1, c2, hrx⟩ := readsA_at HRd.out hx
      have d0 := (hbr.cell (p := ⟨b, off + k * 3, none⟩) hb).trans c0
      have d1 := (hbr.cell (p := ⟨b, off + k * 3 + 1, none⟩) hb).trans c1
      have d2 := (hbr.cell (p := ⟨b, off + k * 3 + 2, none⟩) hb).trans c2
      have hz := alloc_size wr (.cells #[.int .i64 (x.kind : Int), .string ⟨x.text.toArray⟩, .slice va x.list.length vc] 37)
      have ya := hbr.alloc hbr.size (.cells #[.int .i64 (x.kind : Int), .string ⟨x.text.toArray⟩, .slice va x.list.length vc] 37)
      have oa := hown.alloc (.cells #[.int .i64 (x.kind : Int), .string ⟨x.text.toArray⟩, .slice va x.list.length vc] 37)
      have cT := HIH.out x (.slice va x.list.length vc) (wr.alloc (.cells #[.int .i64 (x.kind : Int), .string ⟨x.text.toArray⟩, .slice va x.list.length vc] 37)) _ (HS.out x hxm) (readsA_below (readsA_below hrx hbr) ((Below.refl _ wr).alloc (Nat.le_refl _) _)) (HM.out x hxm) (hHG.out _ ya)
      unfold argV at cT
      have HTK := Lib.hid htk
      have HYA := Lib.hid ya
      have HOA := Lib.hid oa
      clear c0 c1 c2 hrx hx hxm htk ya oa
      go_wp2_with (first
        | (go_at_call 18; go_loud (((with_reducible refine cT.mono ?_); rintro e w1 ⟨rfl, h⟩; have y1 := HYA.out.trans (h.mono HYA.out.size); have o1 := owns_same HOA.out (fun j o hj _ => below_same h hj))))
        | (at_builtin; go_must (refine wpList_app1 rfl _ _ 68 rfl 9 Tryz.underlying68 str_info rfl w.heap.size _ _ _ _ rfl o1 _ rfl rfl ?hn (by decide) ?hb ?_)))
      case hn => omega
      case hb => exact y1.size
      intro v' w2 o2 g2 hv2
      have y2 := below_app y1 y1.size o1 g2
      have o3 : w2.ownsRow w.heap.size 9 1 v' (k + 1) (((l.take (k + 1)).map textF).map encStr) := by
        have o4 : w2.ownsRow w.heap.size 9 1 v' (k + 1) (((l.take k).map textF).map encStr ++ [encStr (textF x)]) := by
          rw [List.map_map, List.map_take]; exact o2
        rw [HTK.out, List.map_append, List.map_append]; exact o4
      go_wp2_with fail
      go_roundg g'
      case measure => omega
      case rel => exact ⟨k + 1, _, by omega, by go_num, rfl, o3, y2⟩
    · obtain rfl : k = l.length := by omega
      have cJ := joinB_any ov (l.map textF) wr (srow_owns (by rw [List.take_length] at hown; rw [List.length_map]; exact hown)) (by rw [List.length_map]; omega) (by rw [join_joinF]; omega)
      rw [join_joinF] at cJ
      obtain ⟨J, hJ⟩ : ∃ J, joinF l = J := ⟨_, rfl⟩
      rw [hJ] at cJ hJl
      have HJ := Lib.hid hJ
      obtain ⟨q1, hq1⟩ : ∃ q, q = [40] ++ J := ⟨_, rfl⟩
      have a1 : (⟨#[40]⟩ : ByteArray) ++ ⟨J.toArray⟩ = ⟨q1.toArray⟩ := by rw [hq1]; exact cat_l [40] J
      have l1 : q1.length ≤ 99999 := by rw [hq1, List.length_append]; show 1 + _ ≤ _; omega
      have s0 := w_size J
      have s1 := w_size q1
      have HQ := Lib.hid hq1
      have HB := Lib.hid hbr
      clear hq1 hJ hown hbr hk HM HS
      go_wp2_with (go_at_call 31; go_loud (((with_reducible refine cJ.mono ?_); rintro e w1 ⟨rfl, h⟩; have y1 := HB.out.trans (h.mono HB.out.size))))
      go_ret
      exact ⟨by rw [HJ.out]; show _ = Ending.returned (.string ⟨([40] ++ J ++ [41]).toArray⟩); rw [← HQ.out, ← cat_l]; rfl, y1⟩
end Go.Proofs.YtbfndlmihijcgaaGreatDoor
