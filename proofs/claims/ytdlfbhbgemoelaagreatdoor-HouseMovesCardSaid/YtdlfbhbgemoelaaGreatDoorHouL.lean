/- The walk over the fact housed. Conditions: utf8's two tables, bytealg.MaxLen, errors.errorType lie as the program's text lays them. The walk over the fact housed. Conditions: utf8's two tables, bytealg.MaxLen, errors.errorType lie as the program's text lays them. -/
import Derived.Test.YtdlfbhbgemoelaaGreatDoorHouI
import Derived.Test.YtdlfbhbgemoelaaGreatDoorMatch
import Derived.Test.YtdlfbhbgemoelaaGreatDoorTell
import Derived.Test.YtdlfbhbgemoelaaGreatDoorBytes
namespace Go.Proofs.YtdlfbhbgemoelaaGreatDoor
open Go.RowKit Go.Shelf Go.Sort Go.Maps
set_option linter.unusedSimpArgs false

/-- what the walks over a house need of the program's variables -/
def HC (w : World) : Prop := HG w ∧ ErrTy w
theorem HC.below {w w' : World} (h : HC w) (hb : Below w.heap.size w w') : HC w' := ⟨h.1.below hb, errTy_below h.2 hb⟩
theorem hsrow_owns {W : World} {B : Nat} {v : Value} {l : List (List UInt8)} (h : W.ownsRow B 9 1 v l.length (l.map encStr)) : SRow W v l := by
  rcases h.2 with ⟨rfl, h0⟩ | ⟨g, cap, cur, rfl, hg, hh, h3, h4, h5, h6⟩
  · obtain rfl : l = [] := List.eq_nil_of_length_eq_zero h0
    exact SRow.nil W
  · refine ⟨some ⟨g, 0, none⟩, cap, rfl, h3, ⟨by unfold maxLen at h4; omega, fun h => by cases h⟩, fun j t hj => ⟨g, 0, rfl, (Array.getElem?_eq_some_iff.1 hh).1, ?_⟩⟩
    rw [Nat.zero_add]
    exact owns_cell h (by rw [List.getElem?_map, hj]; rfl)
theorem hmap_getD (l : List (List UInt8)) {j : Nat} {t : List UInt8} (h : l[j]? = some t) : (l.map fun t => (⟨t.toArray⟩ : ByteArray)).getD j ByteArray.empty = ⟨t.toArray⟩ := by
  rw [List.getD, List.getElem?_map, h]; rfl
theorem hmap_inj {a b : List Bs} (h : (a.map fun t => (⟨t.toArray⟩ : ByteArray)) = b.map fun t => ⟨t.toArray⟩) : a = b := by
  have := congrArg (List.map fun b : ByteArray => b.data.toList) h
  simpa [Function.comp_def] using this
theorem heq_any (v u : Value) (l m : List Bs) (w : World) (hv : SRow w v l) (hu : SRow w u m) (hl : l.length ≤ 1000000) (hm : m.length ≤ 1000000) :
    Calls Tryz.prog 21 #[v, u] w fun e w' => e = .returned (.bool (decide (l = m))) ∧ Below w.heap.size w w' := by
  obtain ⟨ao, cap, rfl, hcap, ⟨_, hn1⟩, hcell⟩ := hv
  obtain ⟨bo, cap', rfl, hcap', ⟨_, hn2⟩, hcell'⟩ := hu
  cases l with
  | nil =>
    refine (Tryz.slices_Equal_string_empty ao bo cap m.length cap' w (by omega)).mono ?_
    rintro e w' ⟨rfl, rfl⟩
    exact ⟨by cases m <;> rfl, Below.refl _ _⟩
  | cons x r =>
    cases m with
    | nil =>
      clear hcell hcell' hn1 hn2
      have hL : (x :: r).length = r.length + 1 := rfl
      rw [hL] at hcap hl ⊢
      have hz2 : (((r.length + 1 : Nat) : Int) != 0) = true := by rw [bne_iff_ne]; omega
      have hd : decide (((r.length + 1 : Nat) : Int) = 0) = false := by rw [decide_eq_false_iff_not]; omega
      show Calls _ _ #[_, .slice bo 0 cap'] _ fun e w' => e = .returned (.bool false) ∧ _
      obtain ⟨n, hn⟩ : ∃ n, r.length + 1 = n := ⟨_, rfl⟩
      rw [hn] at hz2 hd ⊢
      have hn0 : ¬ (n = 0) := by omega
      clear hL hcap hl hm hcap' hn
      go_enter Tryz.func21, Tryz.ntmps21
      go_wp2_with fail
      go_ret
      exact ⟨rfl, Below.refl _ _⟩
    | cons y q =>
      obtain ⟨b, off, rfl, _, _⟩ := hcell 0 x rfl
      obtain ⟨b2, off2, rfl, _, _⟩ := hcell' 0 y rfl
      refine (Tryz.slices_Equal_string b off (x :: r).length cap b2 off2 (y :: q).length cap' ((x :: r).map fun t => ⟨t.toArray⟩) ((y :: q).map fun t => ⟨t.toArray⟩) w (by simp) (by simp) (by omega) (by omega) (fun j hj => ?_) (fun j hj => ?_)).mono ?_
      · obtain ⟨t, ht⟩ : ∃ t, (x :: r)[j]? = some t := ⟨(x :: r)[j]'(by simpa using hj), List.getElem?_eq_getElem _⟩
        obtain ⟨b', off', e1, _, e3⟩ := hcell j t ht
        cases e1
        rw [e3, hmap_getD _ ht]
      · obtain ⟨t, ht⟩ : ∃ t, (y :: q)[j]? = some t := ⟨(y :: q)[j]'(by simpa using hj), List.getElem?_eq_getElem _⟩
        obtain ⟨b', off', e1, _, e3⟩ := hcell' j t ht
        cases e1
        rw [e3, hmap_getD _ ht]
      · rintro e w' ⟨rfl, q', rfl⟩
        refine ⟨?_, ⟨rfl, rfl, rfl, Nat.le_refl _, fun _ _ => rfl⟩⟩
        have e1 : ((x :: r).map fun t => (⟨t.toArray⟩ : ByteArray)).take (x :: r).length = (x :: r).map fun t => ⟨t.toArray⟩ := List.take_of_length_le (by simp)
        have e2 : ((y :: q).map fun t => (⟨t.toArray⟩ : ByteArray)).take (y :: q).length = (y :: q).map fun t => ⟨t.toArray⟩ := List.take_of_length_le (by simp)
        rw [e1, e2]
        congr 2
        rw [decide_eq_decide]
        exact ⟨hmap_inj, fun h => by rw [h]⟩
end Go.Proofs.YtdlfbhbgemoelaaGreatDoor
namespace Go.Proofs.YtdlfbhbgemoelaaGreatDoor
open Go.RowKit Go.Shelf Go.Sort Go.Maps
set_option linter.unusedSimpArgs false

theorem three_row (w : World) (a b c : Bs) : SRow (w.alloc (.cells #[.string ⟨a.toArray⟩, .string ⟨b.toArray⟩, .string ⟨c.toArray⟩] 9)) (.slice (some ⟨w.heap.size, 0, none⟩) 3 3) [a, b, c] := by
  have x := World.heap_alloc_new w (.cells #[.string ⟨a.toArray⟩, .string ⟨b.toArray⟩, .string ⟨c.toArray⟩] 9)
  refine ⟨_, 3, rfl, Nat.le_refl _, ⟨by decide, fun h => by cases h⟩, fun j t hj => ⟨w.heap.size, 0, rfl, by rw [alloc_size]; omega, ?_⟩⟩
  rw [Nat.zero_add, Lib.cell_of_heap x]
  match j, hj with
  | 0, hj => cases hj; rfl
  | 1, hj => cases hj; rfl
  | 2, hj => cases hj; rfl
  | j + 3, hj => simp at hj
set_option maxRecDepth 100000 in
set_option maxHeartbeats 8000000 in
theorem housed_any (w : World) (hC : HC w) : Calls Tryz.prog 5 #[] w fun e w' => e = .returned (.bool true) ∧ Below w.heap.size w w' := by
  have cW := hnew_any w
  have cM1 := fun W => hmatch_any [99, 37] [99] W (by decide) (by decide)
  have cM2 := fun W => hmatch_any [37] [99, 47, 98] W (by decide) (by decide)
  rw [fact_yes] at cM1
  rw [fact_no] at cM2
  have HCW := Lib.hid hC
  clear hC
  go_enter Tryz.func5, Tryz.ntmps5
  go_upto_region 2 with (go_at_call 6; ((with_reducible refine cW.mono ?_); rintro e w1 ⟨H, mb, mw, B, rfl, hS1, hb1⟩))
  have cC := hcreate_good w.heap.size H mb mw (makeC emptyH inboxB B) [97, 47, 98] [[97], [97, 47, 98]] w1 hS1 hb1.size (by decide) (HCW.out.1.below hb1) (by show (0 : Int) ≤ 1 + 1; omega) (by show (1 : Int) + 1 ≤ 3000000000; omega) fact_create
  have hN : w.heap.size ≤ H ∧ w.heap.size ≤ mb := ⟨hS1.loH, hS1.lob⟩
  have hd : ∀ W h, HouseS w.heap.size W H mb mw h → h.L = [inboxB, [97], [97, 47, 98]] → Below w.heap.size w W → Calls Tryz.prog 20 #[.pointer (some ⟨H, 0, none⟩), .string ⟨#[97]⟩] W fun e w' => e = .returned (.iface 55 (.int .i64 6)) ∧ Below W.heap.size W w' := fun W h hS hL hb => by
    have := hdelete_any w.heap.size H mb mw h [97] W hS (by decide) (by rw [hL]; decide) (HCW.out.1.below hb)
    rw [hL, fact_delete] at this
    exact this
  have hr : ∀ W h, HouseS w.heap.size W H mb mw h → h.L = [inboxB, [97], [97, 47, 98]] → 0 ≤ h.next → h.next ≤ 3000000000 → Below w.heap.size w W → Calls Tryz.prog 12 #[.pointer (some ⟨H, 0, none⟩), .string ⟨#[97]⟩, .string ⟨#[99]⟩] W (RenamedS w.heap.size W H mb mw h (.inr ([97], [99]))) := fun W h hS hL h0 h1 hb => by
    have := hrename_more w.heap.size H mb mw h [97] [99] [97] [99] W hS hb.size (by decide) (by decide) (by rw [hL]; decide) (HCW.out.1.below hb) h0 h1 (by rw [hL]; exact fact_get) fact_name (by decide)
    rw [hL, fact_more] at this
    exact this
  have hnm : ∀ W h, HouseS w.heap.size W H mb mw h → h.L.length = 3 → Calls Tryz.prog 18 #[.pointer (some ⟨H, 0, none⟩)] W (NamesS W.heap.size W h.L) := fun W h hS hL => hnames_any w.heap.size H mb mw h W hS (by omega)
  have hq : ∀ W v, SRow W v [inboxB, [99], [99, 47, 98]] → Calls Tryz.prog 21 #[v, .slice (some ⟨W.heap.size, 0, none⟩) 3 3] (W.alloc (.cells #[.string ⟨#[73, 78, 66, 79, 88]⟩, .string ⟨#[99]⟩, .string ⟨#[99, 47, 98]⟩] 9)) fun e w' => e = .returned (.bool true) ∧ Below (W.heap.size + 1) (W.alloc (.cells #[.string ⟨#[73, 78, 66, 79, 88]⟩, .string ⟨#[99]⟩, .string ⟨#[99, 47, 98]⟩] 9)) w' := fun W v hv => by
    have := heq_any v _ [inboxB, [99], [99, 47, 98]] _ _ (hv.below ((Below.refl _ _).alloc (Nat.le_refl _) _)) (three_row W inboxB [99] [99, 47, 98]) (by decide) (by decide)
    rw [alloc_size, decide_eq_true rfl] at this
    exact this
  have cM1 : ∀ W, Calls Tryz.prog 22 #[.string ⟨#[99, 37]⟩, .string ⟨#[99]⟩] W fun e w' => e = .returned (.bool true) ∧ Below W.heap.size W w' := cM1
  have cM2 : ∀ W, Calls Tryz.prog 22 #[.string ⟨#[37]⟩, .string ⟨#[99, 47, 98]⟩] W fun e w' => e = .returned (.bool false) ∧ Below W.heap.size W w' := cM2
  have HD := Lib.hid hd
  have HR := Lib.hid hr
  have HNM := Lib.hid hnm
  have HQ := Lib.hid hq
  clear hd hr hnm hq hS1 cW
  have cC : Calls Tryz.prog 17 #[.pointer (some ⟨H, 0, none⟩), .string ⟨#[97, 47, 98]⟩] w1 (CreatedS w.heap.size w1 H mb mw (makeC emptyH inboxB B) (.inr [[97], [97, 47, 98]])) := cC
  go_upto_if 21 with (first
    | (go_at_call 17; ((with_reducible refine cC.mono ?_); rintro e w2 ⟨rfl, bs, hbs, hS2, hK2, -⟩; have hb2 := hb1.trans (house_bound hK2 hb1.size hN.1 hN.2); have hL2 : (makeAll (makeC emptyH inboxB B) [[97], [97, 47, 98]] bs).L = [inboxB, [97], [97, 47, 98]] := (makeAll_L _ _ bs hbs).1.trans fact_made; have hn2 : (makeAll (makeC emptyH inboxB B) [[97], [97, 47, 98]] bs).next = 4 := (makeAll_L _ _ bs hbs).2.2; obtain ⟨h2, hh2⟩ : ∃ h2, makeAll (makeC emptyH inboxB B) [[97], [97, 47, 98]] bs = h2 := ⟨_, rfl⟩; rw [hh2] at hS2 hL2 hn2; have cNm := HNM.out w2 h2 hS2 (by rw [hL2]; rfl); rw [hL2] at cNm; have HS2 := Lib.hid hS2; have HL2 := Lib.hid hL2; have HN2 := Lib.hid hn2; clear hS2 hK2 hL2 hn2 hh2 hbs))
    | (go_at_call 18; ((with_reducible refine cNm.mono ?_); rintro e w3 ⟨v3, rfl, hrow3, hb3⟩; obtain ⟨ao, cap, rfl⟩ := owns_val hrow3; have hb3b := hb2.trans (hb3.mono hb2.size); have cD := HD.out w3 h2 (HS2.out.below hb3) HL2.out hb3b; have HS3 : Hid (HouseS w.heap.size w3 H mb mw h2) := Lib.hid (HS2.out.below hb3)))
    | (go_at_call 20; ((with_reducible refine cD.mono ?_); rintro e w4 ⟨rfl, hb4⟩; have hb4b := hb3b.trans (hb4.mono hb3b.size); have cT := tell_errno 6 w4 (HCW.out.below hb4b).2))
    | (go_at_call 19; ((with_reducible refine cT.mono ?_); rintro e w5 ⟨rfl, hb5⟩; have hb5b := hb4b.trans (hb5.mono hb4b.size))))
  have HS5 : Hid (HouseS w.heap.size w5 H mb mw h2) := Lib.hid ((HS3.out.below hb4).below hb5)
  have cR := HR.out w5 h2 HS5.out HL2.out (by rw [HN2.out]; decide) (by rw [HN2.out]; decide) hb5b
  clear hb2 hb3 hb3b hb4 hb4b hb5 hrow3 HS2 HS3 cD cT cNm
  go_wp2_with (first
    | (go_at_call 12; ((with_reducible refine cR.mono ?_); rintro e w6 ⟨rfl, bs3, hbs3, hS6, hK6⟩; have hb6 := hb5b.trans (house_bound hK6 hb5b.size hN.1 hN.2); have hL6 : (makeAll (moveAll h2 [97] [99] (hinsideF h2.L [97] ++ [[97]])) (haboveF h2.L [99]) bs3).L = [inboxB, [99], [99, 47, 98]] := (by rw [(makeAll_L _ _ bs3 hbs3).1, moveAll_L, HL2.out, fact_above, fact_moved]; rfl); obtain ⟨h3, hh3⟩ : ∃ h3, makeAll (moveAll h2 [97] [99] (hinsideF h2.L [97] ++ [[97]])) (haboveF h2.L [99]) bs3 = h3 := ⟨_, rfl⟩; rw [hh3] at hS6 hL6; have cNm6 := HNM.out w6 h3 hS6 (by rw [hL6]; rfl); rw [hL6] at cNm6; clear hS6 hK6 hL6 hh3 hbs3))
    | (go_at_call 18; ((with_reducible refine cNm6.mono ?_); rintro e w7 ⟨v7, rfl, hrow7, hb7⟩; have hb7b := hb6.trans (hb7.mono hb6.size); have cE := HQ.out w7 v7 (hsrow_owns hrow7); clear hrow7))
    | (go_at_call 21; go_loud ((with_reducible refine cE.mono ?_); rintro e w8 ⟨rfl, hb8⟩; have hb8b := (hb7b.alloc hb7b.size (.cells #[.string ⟨#[73, 78, 66, 79, 88]⟩, .string ⟨#[99]⟩, .string ⟨#[99, 47, 98]⟩] 9)).trans (hb8.mono (Nat.le_trans hb7b.size (Nat.le_succ _)))))
    | (go_at_call 22; ((with_reducible refine (cM1 _).mono ?_); rintro e w9 ⟨rfl, hb9⟩; have hb9b := hb8b.trans (hb9.mono hb8b.size)))
    | (go_at_call 22; ((with_reducible refine (cM2 _).mono ?_); rintro e w10 ⟨rfl, hb10⟩; have hb10b := hb9b.trans (hb10.mono hb9b.size))))
  go_ret
  exact ⟨rfl, hb10b⟩
end Go.Proofs.YtdlfbhbgemoelaaGreatDoor
