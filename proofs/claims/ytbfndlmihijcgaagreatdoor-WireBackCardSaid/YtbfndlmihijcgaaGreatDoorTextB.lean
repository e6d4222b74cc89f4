/- The walks over wire.text and wire.Print: each returns what is written. Conditions: strconv's table of powers and its two errors, and bytealg.MaxLen, lie as the program's text lays them. -/
import Derived.Test.YtbfndlmihijcgaaGreatDoorTextA
namespace Go.Proofs.YtbfndlmihijcgaaGreatDoor
open Go.RowKit Go.Shelf Go.Sort
set_option linter.unusedSimpArgs false

set_option maxRecDepth 100000 in
set_option maxHeartbeats 8000000 in
theorem text_word_any (t : List UInt8) (l : List ArgP) (v : Value) (w : World) :
    Calls Tryz.prog 18 #[.agg #[.int .i64 1, .string ⟨t.toArray⟩, v]] w fun e w' => e = .returned (.string ⟨(textF (.mk 1 t l)).toArray⟩) ∧ Below w.heap.size w w' := by
  have y0 := (Below.refl w.heap.size w).alloc (Nat.le_refl _) (.cells #[.int .i64 1, .string ⟨t.toArray⟩, v] 37)
  rw [text_word]
  go_enter Tryz.func18, Tryz.ntmps18
  go_wp2_with fail
  go_ret
  exact ⟨rfl, y0⟩
set_option maxRecDepth 100000 in
set_option maxHeartbeats 8000000 in
theorem text_said_any (k : Nat) (t : List UInt8) (l : List ArgP) (v : Value) (w : World) (h3 : k ≠ 3) (h1 : k ≠ 1) (hl : (textF (.mk k t l)).length ≤ 100000) (hG : WireG w) :
    Calls Tryz.prog 18 #[.agg #[.int .i64 (k : Int), .string ⟨t.toArray⟩, v]] w fun e w' => e = .returned (.string ⟨(textF (.mk k t l)).toArray⟩) ∧ Below w.heap.size w w' := by
  have y0 := (Below.refl w.heap.size w).alloc (Nat.le_refl _) (.cells #[.int .i64 (k : Int), .string ⟨t.toArray⟩, v] 37)
  rw [text_said h3 h1] at hl ⊢
  have htl := said_ge t
  have h3z : ((k : Int) == 3) = false := by rw [beq_eq_false_iff_ne]; omega
  have h1z : ((k : Int) == 1) = false := by rw [beq_eq_false_iff_ne]; omega
  have cQ := quote_any t (w.alloc (.cells #[.int .i64 (k : Int), .string ⟨t.toArray⟩, v] 37)) (by omega) (hG.below y0)
  have hsz := alloc_size w (.cells #[.int .i64 (k : Int), .string ⟨t.toArray⟩, v] 37)
  have hnew := World.heap_alloc_new w (.cells #[.int .i64 (k : Int), .string ⟨t.toArray⟩, v] 37)
  have s0 := w_size t
  have HY := Lib.hid y0
  have HN := Lib.hid hnew
  have HD := Lib.hid (fun h => quote_diff (t := t) h)
  have HE := Lib.hid (fun h => quote_same (t := t) h)
  generalize quoteF t = A at cQ HD HE
  obtain ⟨q1, hq1⟩ : ∃ q, q = [34] ++ t := ⟨_, rfl⟩
  have a1 : (⟨#[34]⟩ : ByteArray) ++ ⟨t.toArray⟩ = ⟨q1.toArray⟩ := by rw [hq1]; exact cat_l [34] t
  have l1 : q1.length ≤ 100001 := by rw [hq1, List.length_append]; show 1 + _ ≤ _; omega
  have s1 := w_size q1
  have HQ : Hid (q1 = [34] ++ t) := Lib.hid hq1
  clear hq1 y0 hnew
  by_cases hA : A = t
  · have e1 : (A == t) = true := by simpa using hA
    have e2 : (A != t) = false := by simpa using hA
    have HA := Lib.hid hA
    clear hA
    go_enter Tryz.func18, Tryz.ntmps18
    go_wp2_with (go_at_call 32; go_loud (((with_reducible refine cQ.mono ?_); rintro e w1 ⟨rfl, h⟩; have y1 := HY.out.trans (h.mono HY.out.size); have hb1 := (below_same h HN.out); have c1 := Lib.cell_of_heap hb1 1)))
    go_ret
    exact ⟨by rw [← HE.out HA.out]; show _ = Ending.returned (.string ⟨([34] ++ t ++ [34]).toArray⟩); rw [← HQ.out, ← cat_l]; rfl, y1⟩
  · have e1 : (A == t) = false := by simpa using hA
    have e2 : (A != t) = true := by simpa using hA
    have HA := Lib.hid hA
    clear hA
    go_enter Tryz.func18, Tryz.ntmps18
    go_wp2_with (go_at_call 32; go_loud (((with_reducible refine cQ.mono ?_); rintro e w1 ⟨rfl, h⟩; have y1 := HY.out.trans (h.mono HY.out.size); have hb1 := (below_same h HN.out); have c1 := Lib.cell_of_heap hb1 1)))
    go_ret
    exact ⟨by rw [← HD.out HA.out]; rfl, y1⟩
theorem text_any : ∀ (n : Nat) (x : ArgP) (v : Value) (w : World) (ok : Nat → Prop), sizeA x ≤ n → ReadsA w ok v x.list → (textF x).length ≤ 100000 → WireG w →
      Calls Tryz.prog 18 #[argV x v] w fun e w' => e = .returned (.string ⟨(textF x).toArray⟩) ∧ Below w.heap.size w w'
  | 0, .mk k t l, v, w, ok, hn, hr, hl, hG => by rw [sizeA] at hn; omega
  | n + 1, .mk k t l, v, w, ok, hn, hr, hl, hG => by
    rw [sizeA] at hn
    by_cases h3 : k = 3
    · subst h3
      exact text_list_any n (text_any n) t l v w ok (by omega) hr hl hG
    · by_cases h1 : k = 1
      · subst h1
        exact text_word_any t l v w
      · exact text_said_any k t l v w h3 h1 hl hG

set_option maxRecDepth 100000 in
set_option maxHeartbeats 8000000 in
theorem print_any (tag nm : List UInt8) (l : List ArgP) (v : Value) (w : World) (ok : Nat → Prop) (hr : ReadsA w ok v l) (hl : (lineF tag nm l).length ≤ 90000) (hG : WireG w) :
    Calls Tryz.prog 6 #[.agg #[.string ⟨tag.toArray⟩, .string ⟨nm.toArray⟩, v]] w fun e w' => e = .returned (.string ⟨(lineF tag nm l ++ [13, 10]).toArray⟩) ∧ Below w.heap.size w w' := by
  have hHG := Lib.hid (fun W (h : Below w.heap.size w W) => hG.below h)
  obtain ⟨p, hp⟩ : ∃ p, p = tag ++ [32] ++ nm := ⟨_, rfl⟩
  have hlf : lineF tag nm l = p ++ tailF l := by rw [hp, lineF]; simp
  rw [hlf] at hl ⊢
  have hpl : p.length + (tailF l).length ≤ 90000 := by rw [List.length_append] at hl; exact hl
  have hll := tailF_le l
  have hlen : l.length ≤ 90000 := by omega
  have HM : Hid (∀ x ∈ l, (textF x).length ≤ 100000) := Lib.hid (fun x hx => by have := tailF_mem l x hx; omega)
  have HP : Hid (∀ k, (p ++ tailF (l.take k)).length ≤ 90000) := Lib.hid (fun k => by
    have := tailF_take l k
    rw [List.length_append]; omega)
  have htag : tag.length ≤ 90000 := by rw [hp] at hpl; simp only [List.length_append] at hpl; omega
  have hnm : nm.length ≤ 90000 := by rw [hp] at hpl; simp only [List.length_append] at hpl; omega
  obtain ⟨q1, hq1⟩ : ∃ q, q = tag ++ [32] := ⟨_, rfl⟩
  rw [← hq1] at hp
  have a1 : (⟨tag.toArray⟩ : ByteArray) ++ ⟨#[32]⟩ = ⟨q1.toArray⟩ := by rw [hq1]; exact cat_l tag [32]
  have a2 : (⟨q1.toArray⟩ : ByteArray) ++ ⟨nm.toArray⟩ = ⟨p.toArray⟩ := by rw [hp]; exact cat_l q1 nm
  have l1 : q1.length ≤ 90001 := by rw [hq1, List.length_append]; show _ + 1 ≤ _; omega
  have s0 := w_size tag
  have s1 := w_size nm
  have s2 := w_size q1
  obtain ⟨ao, cap, rfl⟩ := readsA_slice hr
  have HRd := Lib.hid hr
  have y0 := (Below.refl w.heap.size w).alloc (Nat.le_refl _) (.cells #[.string ⟨tag.toArray⟩, .string ⟨nm.toArray⟩, .slice ao l.length cap] 25)
  have HY := Lib.hid y0
  clear hll hl hr y0 hpl hp hq1 hlf
  go_enter Tryz.func6, Tryz.ntmps6
  go_wp2_with fail
  clear a1 a2 l1 s0 s1 s2 htag hnm
  go_loopg [3, 15] l.length (fun g s3 s15 wr => ∃ (k : Nat), k + g = l.length ∧ s15 = .int .i64 (k : Int) ∧ s3 = .string ⟨(p ++ tailF (l.take k)).toArray⟩ ∧ Below w.heap.size w wr)
  case atStart => exact ⟨0, by omega, rfl, by rw [List.take_zero, tailF, List.append_nil], HY.out⟩
  case round =>
    clear HY
    obtain ⟨k, hk, rfl, rfl, hbr⟩ := hrel
    by_cases hlt : k < l.length
    · obtain ⟨g', rfl⟩ : ∃ g', gk = g' + 1 := ⟨gk - 1, by omega⟩
      obtain ⟨x, hx⟩ : ∃ x, l[k]? = some x := ⟨l[k], List.getElem?_eq_getElem hlt⟩
      have htk : p ++ tailF (l.take (k + 1)) = p ++ tailF (l.take k) ++ ([32] ++ textF x) := by rw [List.take_add_one, hx]; show p ++ tailF (l.take k ++ [x]) = _; rw [tailF_snoc]; simp
      have hxm := List.mem_of_getElem? hx
      obtain ⟨b, off, va, vc, rfl, -, hlc, hcc, hb, c0, c1, c2, hrx⟩ := readsA_at HRd.out hx
      have d0 := (hbr.cell (p := ⟨b, off + k * 3, none⟩) hb).trans c0
      have d1 := (hbr.cell (p := ⟨b, off + k * 3 + 1, none⟩) hb).trans c1
      have d2 := (hbr.cell (p := ⟨b, off + k * 3 + 2, none⟩) hb).trans c2
      have hz := alloc_size wr (.cells #[.int .i64 (x.kind : Int), .string ⟨x.text.toArray⟩, .slice va x.list.length vc] 37)
      have ya := hbr.alloc hbr.size (.cells #[.int .i64 (x.kind : Int), .string ⟨x.text.toArray⟩, .slice va x.list.length vc] 37)
      have cT := text_any (sizeA x) x (.slice va x.list.length vc) (wr.alloc (.cells #[.int .i64 (x.kind : Int), .string ⟨x.text.toArray⟩, .slice va x.list.length vc] 37)) _ (Nat.le_refl _) (readsA_below (readsA_below hrx hbr) ((Below.refl _ wr).alloc (Nat.le_refl _) _)) (HM.out x hxm) (hHG.out _ ya)
      unfold argV at cT
      have b0 := HP.out k
      have b1 := HP.out (k + 1)
      have b2 := HM.out x hxm
      have HYA := Lib.hid ya
      rw [htk] at b1
      have HTK := Lib.hid htk
      clear htk
      generalize p ++ tailF (l.take k) = A at b0 b1 HTK ⊢
      generalize textF x = X at cT b1 b2 HTK
      obtain ⟨q1, hq1⟩ : ∃ q, q = [32] ++ X := ⟨_, rfl⟩
      obtain ⟨q2, hq2⟩ : ∃ q, q = A ++ q1 := ⟨_, rfl⟩
      have a1 : (⟨#[32]⟩ : ByteArray) ++ ⟨X.toArray⟩ = ⟨q1.toArray⟩ := by rw [hq1]; exact cat_l [32] X
      have a2 : (⟨A.toArray⟩ : ByteArray) ++ ⟨q1.toArray⟩ = ⟨q2.toArray⟩ := by rw [hq2]; exact cat_l A q1
      rw [← hq1, ← hq2] at HTK
      have l1 : q1.length ≤ 100001 := by rw [hq1, List.length_append]; show 1 + _ ≤ _; omega
      have s0 := w_size A
      have s1 := w_size X
      have s2 := w_size q1
      clear c0 c1 c2 hrx hx hxm ya b1 hq1 hq2
      go_wp2_with (go_at_call 18; go_loud (((with_reducible refine cT.mono ?_); rintro e w1 ⟨rfl, h⟩; have y1 := HYA.out.trans (h.mono HYA.out.size))))
      go_roundg g'
      case measure => omega
      case rel => exact ⟨k + 1, by omega, by go_num, by rw [HTK.out], y1⟩
    · obtain rfl : k = l.length := by omega
      have b0 := HP.out l.length
      rw [List.take_length] at b0 ⊢
      obtain ⟨A, hA⟩ : ∃ A, p ++ tailF l = A := ⟨_, rfl⟩
      rw [hA] at b0 ⊢
      have HA := Lib.hid hA
      have s0 := w_size A
      have HB := Lib.hid hbr
      clear HM HP hbr hk hA
      go_wp2_with fail
      go_ret
      exact ⟨by rw [HA.out, ← cat_l]; rfl, HB.out⟩
end Go.Proofs.YtbfndlmihijcgaaGreatDoor
