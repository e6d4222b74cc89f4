/- The walk over letterboxkeep.HeadCase: it returns true, whatever it is given. Condition: bytealg.MaxLen lies. -/
import Derived.Test.YtmjfhhladicacaaDoorHeadG
namespace Go.Proofs.YtmjfhhladicacaaDoor
open Go.RowKit Go.Shelf

/-- two texts in a new block, as a range over a literal reads them -/
theorem pair_cells (W : World) (x y : Value) (t : TypeId) : (W.alloc (.cells #[x, y] t)).cell? ⟨W.heap.size, 0, none⟩ = some x ∧ (W.alloc (.cells #[x, y] t)).cell? ⟨W.heap.size, 1, none⟩ = some y :=
  ⟨by rw [World.cell?_alloc_at _ _ _ _ rfl]; rfl, by rw [World.cell?_alloc_at _ _ _ _ rfl]; rfl⟩

set_option maxRecDepth 100000 in
set_option maxHeartbeats 8000000 in
theorem headCase_any (s n v : List UInt8) (w : World) (hs : s.length ≤ 9223372036854775807) (hn : n.length ≤ 9223372036854775807) (hv : v.length ≤ 9223372036854775807) (hM : MaxL w) :
    Calls Tryd.prog 3 #[.string ⟨s.toArray⟩, .string ⟨n.toArray⟩, .string ⟨v.toArray⟩] w fun e w' => e = .returned (.bool true) ∧ Below w.heap.size w w' := by
  have hts := text_size s
  have htn := text_size n
  have htv := text_size v
  by_cases h800 : (800 : Int) < (s.length : Int)
  · go_enter Tryd.func3, Tryd.ntmps3
    go_wp2_with fail
    go_ret
    exact ⟨rfl, Below.refl _ _⟩
  by_cases h60 : (60 : Int) < (n.length : Int)
  · go_enter Tryd.func3, Tryd.ntmps3
    go_wp2_with fail
    go_ret
    exact ⟨rfl, Below.refl _ _⟩
  by_cases h60v : (60 : Int) < (v.length : Int)
  · go_enter Tryd.func3, Tryd.ntmps3
    go_wp2_with fail
    go_ret
    exact ⟨rfl, Below.refl _ _⟩
  have cH := headed_any w hM
  cases hf : fieldsL s with
  | inl x =>
    have cF := fun W (hW : MaxL W) => fields_err s x W hf (by omega) hW
    clear hf
    go_enter Tryd.func3, Tryd.ntmps3
    go_wp2_with (first
      | (go_at_call 7; with_reducible refine cH.mono ?_; rintro e w1 ⟨rfl, hb1⟩)
      | (go_at_call 8; with_reducible refine (cF _ (hM.below hb1)).mono ?_; rintro e w2 ⟨g, rfl, h1, h2, hb2⟩))
    go_ret
    exact ⟨rfl, hb1.trans (hb2.mono hb1.size)⟩
  | inr l =>
    have cF := fun W (hW : MaxL W) => fields_ok s l W hf (by omega) hW
    clear hf
    have hgs := get_small l n
    have hgg := get_great l n
    have hos := only_small l n
    have hog := only_great l n
    have hgo := get_only l n
    have hsl : (smallL n).length = n.length := by simp [smallL]
    have hgl : (greatL n).length = n.length := by simp [greatL]
    have cG := fun (m : List UInt8) (hm : m.length ≤ 1000000) u W (hr : FldRow W u l) (hL : Lens l) => get_any u l m W hr hL hm
    have cO := fun (m : List UInt8) (hm : m.length ≤ 1000000) u W (hr : FldRow W u l) (hL : Lens l) => only_one u l m W hr hL hm
    have cGn := cG n (by omega)
    have cGs := cG (smallL n) (by omega)
    have cGg := cG (greatL n) (by omega)
    have cOn := cO n (by omega)
    have cOs := cO (smallL n) (by omega)
    have cOg := cO (greatL n) (by omega)
    rw [hgs] at cGs
    rw [hgg] at cGg
    rw [hos] at cOs
    rw [hog] at cOg
    generalize getF l n = G at cGn cGs cGg hgo
    generalize onlyF l [n] = O at cOn cOs cOg hgo
    have cSn := fun W => small_any ⟨n.toArray⟩ W (by rw [text_size]; omega)
    have cRn := fun W => great_any ⟨n.toArray⟩ W (by rw [text_size]; omega)
    have cSg := fun W => small_any ⟨(greatL n).toArray⟩ W (by rw [text_size]; omega)
    have cRs := fun W => great_any ⟨(smallL n).toArray⟩ W (by rw [text_size]; omega)
    simp only [List.toList_toArray, small_great, great_small] at cSn cRn cSg cRs
    have cA := fun W => containsAny_any ⟨v.toArray⟩ ⟨#[59, 34, 61, 32, 9]⟩ W (by decide) (by decide) (by rw [text_size]; omega) (by decide)
    have eA : Lib.containsAny (⟨v.toArray⟩ : ByteArray).data.toList (⟨#[59, 34, 61, 32, 9]⟩ : ByteArray).data.toList = Lib.containsAny v [59, 34, 61, 32, 9] := rfl
    simp only [eA] at cA
    have hp1 := param_one v
    have hp2 := param_two v
    have hp3 := param_three v
    have cP1 := fun W (hW : MaxL W) => param_any ([120, 59, 32, 121, 61, 122, 59, 32, 80, 32, 61, 32] ++ v ++ [32, 59, 113]) [112] W (by simp; omega) (by decide) hW
    have cP2 := fun W (hW : MaxL W) => param_any ([120, 59, 32, 112, 61, 34] ++ v ++ [34]) [80] W (by simp; omega) (by decide) hW
    have cP3 := fun W (hW : MaxL W) => param_any ([112, 61] ++ v) [112] W (by simp; omega) (by decide) hW
    have HP := Lib.hid (And.intro hp1 (And.intro hp2 hp3))
    have HGO := Lib.hid hgo
    have HP1 := Lib.hid cP1
    have HP2 := Lib.hid cP2
    have HP3 := Lib.hid cP3
    have HA := Lib.hid cA
    have HSg := Lib.hid cSg
    have HRs := Lib.hid cRs
    clear hgs hgg hos hog hgo cG cO hp1 hp2 hp3 cP1 cP2 cP3 cA eA cSg cRs
    generalize smallL n = nS at cGs cOs cSn HSg HRs hsl
    generalize greatL n = nG at cGg cOg cRn HSg HRs hgl
    go_enter Tryd.func3, Tryd.ntmps3
    go_wp2_with (first
      | (go_at_call 7; with_reducible refine cH.mono ?_; rintro e w1 ⟨rfl, hb1⟩)
      | (go_at_call 8; with_reducible refine (cF _ (hM.below hb1)).mono ?_; rintro e w2 ⟨ao, cap, rfl, hrow, hL, hb2⟩; have y2 := hb1.trans (hb2.mono hb1.size))
      | (go_at_call 9; with_reducible refine (cGn _ _ hrow hL).mono ?_; rintro e w3 ⟨rfl, hb3⟩; have y3 := y2.trans (hb3.mono y2.size); have r3 := hrow.below hb3)
      | (go_at_call 10; with_reducible refine (cSn _).mono ?_; rintro e w4 ⟨rfl, hb4⟩; have y4 := y3.trans (hb4.mono y3.size); have r4 := r3.below hb4)
      | (go_at_call 11; with_reducible refine (cRn _).mono ?_; rintro e w5 ⟨rfl, hb5⟩; have y5 := y4.trans (hb5.mono y4.size); have r5 := r4.below hb5))
    have hA := (Below.refl w5.heap.size w5).alloc (Nat.le_refl _) (.cells #[.string ⟨nS.toArray⟩, .string ⟨nG.toArray⟩] 9)
    obtain ⟨p1, p2⟩ := pair_cells w5 (.string ⟨nS.toArray⟩) (.string ⟨nG.toArray⟩) 9
    have hszA : w5.heap.size < (w5.alloc (.cells #[.string ⟨nS.toArray⟩, .string ⟨nG.toArray⟩] 9)).heap.size := by simp
    have yA := y5.alloc y5.size (.cells #[.string ⟨nS.toArray⟩, .string ⟨nG.toArray⟩] 9)
    have rA := r5.below hA
    generalize w5.alloc (.cells #[.string ⟨nS.toArray⟩, .string ⟨nG.toArray⟩] 9) = wA at p1 p2 hszA yA rA
    clear hA
    go_loopg [56] 2 (fun g s56 wr => ∃ (k : Nat), k + g = 2 ∧ s56 = .int .i64 k ∧ Below wA.heap.size wA wr)
    case atStart => exact ⟨0, by omega, rfl, Below.refl _ _⟩
    case round =>
      obtain ⟨k, hk, rfl, hbr⟩ := hrel
      have rr := rA.below hbr
      have yr := yA.trans (hbr.mono yA.size)
      have hk3 : k = 0 ∨ k = 1 ∨ k = 2 := by omega
      rcases hk3 with rfl | rfl | rfl
      · have hcell := (hbr.cell (p := ⟨w5.heap.size, 0, none⟩) hszA).trans p1
        clear p1 p2
        go_wp2_with (first
          | (go_at_call 9; with_reducible refine (cGs _ _ rr hL).mono ?_; rintro e w6 ⟨rfl, hb6⟩; have y6 := hbr.trans (hb6.mono hbr.size); have r6 := rr.below hb6)
          | (go_at_call 12; with_reducible refine (cOs _ _ r6 hL).mono ?_; rintro e w7 ⟨ao7, cap7, rfl, _, hb7⟩; have y7 := y6.trans (hb7.mono y6.size); have r7 := r6.below hb7)
          | (go_at_call 12; with_reducible refine (cOn _ _ r7 hL).mono ?_; rintro e w8 ⟨ao8, cap8, rfl, _, hb8⟩; have y8 := y7.trans (hb8.mono y7.size)))
        go_roundg 1
        case measure => omega
        case rel => exact ⟨1, by omega, by go_num, y8⟩
      · have hcell := (hbr.cell (p := ⟨w5.heap.size, 1, none⟩) hszA).trans p2
        clear p1 p2
        go_wp2_with (first
          | (go_at_call 9; with_reducible refine (cGg _ _ rr hL).mono ?_; rintro e w6 ⟨rfl, hb6⟩; have y6 := hbr.trans (hb6.mono hbr.size); have r6 := rr.below hb6)
          | (go_at_call 12; with_reducible refine (cOg _ _ r6 hL).mono ?_; rintro e w7 ⟨ao7, cap7, rfl, _, hb7⟩; have y7 := y6.trans (hb7.mono y6.size); have r7 := r6.below hb7)
          | (go_at_call 12; with_reducible refine (cOn _ _ r7 hL).mono ?_; rintro e w8 ⟨ao8, cap8, rfl, _, hb8⟩; have y8 := y7.trans (hb8.mono y7.size)))
        go_roundg 0
        case measure => omega
        case rel => exact ⟨2, by omega, by go_num, y8⟩
      · clear p1 p2 cGs cGg cOs cOg cGn
        have hgo := HGO.out
        have cA := HA.out
        obtain ⟨m1, hm1⟩ : ∃ m1, m1 = [120, 59, 32, 121, 61, 122, 59, 32, 80, 32, 61, 32] ++ v := ⟨_, rfl⟩
        obtain ⟨m2, hm2⟩ : ∃ m2, m2 = m1 ++ [32, 59, 113] := ⟨_, rfl⟩
        obtain ⟨m3, hm3⟩ : ∃ m3, m3 = [120, 59, 32, 112, 61, 34] ++ v := ⟨_, rfl⟩
        obtain ⟨m4, hm4⟩ : ∃ m4, m4 = m3 ++ [34] := ⟨_, rfl⟩
        obtain ⟨m5, hm5⟩ : ∃ m5, m5 = [112, 61] ++ v := ⟨_, rfl⟩
        have a1 : (⟨#[120, 59, 32, 121, 61, 122, 59, 32, 80, 32, 61, 32]⟩ : ByteArray) ++ ⟨v.toArray⟩ = ⟨m1.toArray⟩ := by rw [hm1]; exact text_cat _ _
        have a2 : (⟨m1.toArray⟩ : ByteArray) ++ ⟨#[32, 59, 113]⟩ = ⟨m2.toArray⟩ := by rw [hm2]; exact text_cat _ _
        have a3 : (⟨#[120, 59, 32, 112, 61, 34]⟩ : ByteArray) ++ ⟨v.toArray⟩ = ⟨m3.toArray⟩ := by rw [hm3]; exact text_cat _ _
        have a4 : (⟨m3.toArray⟩ : ByteArray) ++ ⟨#[34]⟩ = ⟨m4.toArray⟩ := by rw [hm4]; exact text_cat _ _
        have a5 : (⟨#[112, 61]⟩ : ByteArray) ++ ⟨v.toArray⟩ = ⟨m5.toArray⟩ := by rw [hm5]; exact text_cat _ _
        have l1 : m1.length ≤ 100 := by rw [hm1]; simp; omega
        have l3 : m3.length ≤ 100 := by rw [hm3]; simp; omega
        have t1 := text_size m1
        have t3 := text_size m3
        have cP1 := HP1.out
        have cP2 := HP2.out
        have cP3 := HP3.out
        rw [← hm1, ← hm2] at cP1
        rw [← hm3, ← hm4] at cP2
        rw [← hm5] at cP3
        have hpp := fun h hne => HP.out.1 h hne
        have hpq := HP.out.2.1
        have hpr := HP.out.2.2
        rw [← hm1, ← hm2] at hpp
        rw [← hm3, ← hm4] at hpq
        rw [← hm5] at hpr
        clear hm1 hm2 hm3 hm4 hm5
        cases hC : Lib.containsAny v [59, 34, 61, 32, 9]
        · rw [hC] at cA
          by_cases hv0 : v = []
          · have hemp : (⟨v.toArray⟩ : ByteArray).toList.isEmpty = true := by rw [Lib.toList_data, hv0]; rfl
            have hemp2 : v.isEmpty = true := by rw [hv0]; rfl
            clear cP1 cP2 cP3 hpp hpq hpr hC hv0 a1 a2 a3 a4 a5 l1 l3 t1 t3
            cases O with
            | nil =>
              have hg : G = none := hgo
              subst hg
              clear hgo
              go_wp2_with (first
            | (go_at_call 12; with_reducible refine (cOn _ _ rr hL).mono ?_; rintro e wX ⟨aoX, capX, rfl, _, hbX⟩; have y := yr.trans (hbX.mono yr.size))
            | (go_at_call 11; with_reducible refine (cRn _).mono ?_; rintro e wX ⟨rfl, hbX⟩; have y := y.trans (hbX.mono y.size))
            | (go_at_call 10; with_reducible refine (HSg.out _).mono ?_; rintro e wX ⟨rfl, hbX⟩; have y := y.trans (hbX.mono y.size))
            | (go_at_call 10; with_reducible refine (cSn _).mono ?_; rintro e wX ⟨rfl, hbX⟩; have y := y.trans (hbX.mono y.size))
            | (go_at_call 11; with_reducible refine (HRs.out _).mono ?_; rintro e wX ⟨rfl, hbX⟩; have y := y.trans (hbX.mono y.size))
            | (go_at_call 13; with_reducible refine (cA _).mono ?_; rintro e wX ⟨rfl, hbX⟩; have y := y.trans (hbX.mono y.size)))
              go_ret
              exact ⟨rfl, y⟩
            | cons f r =>
              have hg : G = some f.2 := hgo
              subst hg
              clear hgo
              go_wp2_with (first
            | (go_at_call 12; with_reducible refine (cOn _ _ rr hL).mono ?_; rintro e wX ⟨aoX, capX, rfl, hrX, hbX⟩; have y := yr.trans (hbX.mono yr.size); obtain ⟨bX, offX, rfl, _, _, q2⟩ := row_first hrX)
            | (go_at_call 11; with_reducible refine (cRn _).mono ?_; rintro e wX ⟨rfl, hbX⟩; have y := y.trans (hbX.mono y.size))
            | (go_at_call 10; with_reducible refine (HSg.out _).mono ?_; rintro e wX ⟨rfl, hbX⟩; have y := y.trans (hbX.mono y.size))
            | (go_at_call 10; with_reducible refine (cSn _).mono ?_; rintro e wX ⟨rfl, hbX⟩; have y := y.trans (hbX.mono y.size))
            | (go_at_call 11; with_reducible refine (HRs.out _).mono ?_; rintro e wX ⟨rfl, hbX⟩; have y := y.trans (hbX.mono y.size))
            | (go_at_call 13; with_reducible refine (cA _).mono ?_; rintro e wX ⟨rfl, hbX⟩; have y := y.trans (hbX.mono y.size)))
              go_ret
              exact ⟨rfl, y⟩
          · have hemp : (⟨v.toArray⟩ : ByteArray).toList.isEmpty = false := by rw [Lib.toList_data]; simpa using hv0
            have hemp2 : v.isEmpty = false := by simpa using hv0
            rw [hpp hC hv0] at cP1
            rw [hpq hC] at cP2
            rw [hpr hC] at cP3
            clear hpp hpq hpr hC hv0
            cases O with
            | nil =>
              have hg : G = none := hgo
              subst hg
              clear hgo
              go_wp2_with (first
            | (go_at_call 12; with_reducible refine (cOn _ _ rr hL).mono ?_; rintro e wX ⟨aoX, capX, rfl, _, hbX⟩; have y := yr.trans (hbX.mono yr.size))
            | (go_at_call 11; with_reducible refine (cRn _).mono ?_; rintro e wX ⟨rfl, hbX⟩; have y := y.trans (hbX.mono y.size))
            | (go_at_call 10; with_reducible refine (HSg.out _).mono ?_; rintro e wX ⟨rfl, hbX⟩; have y := y.trans (hbX.mono y.size))
            | (go_at_call 10; with_reducible refine (cSn _).mono ?_; rintro e wX ⟨rfl, hbX⟩; have y := y.trans (hbX.mono y.size))
            | (go_at_call 11; with_reducible refine (HRs.out _).mono ?_; rintro e wX ⟨rfl, hbX⟩; have y := y.trans (hbX.mono y.size))
            | (go_at_call 13; with_reducible refine (cA _).mono ?_; rintro e wX ⟨rfl, hbX⟩; have y := y.trans (hbX.mono y.size))
            | (go_at_call 14; with_reducible refine (cP1 _ (hM.below y)).mono ?_; rintro e wX ⟨rfl, hbX⟩; have y := y.trans (hbX.mono y.size))
            | (go_at_call 14; with_reducible refine (cP2 _ (hM.below y)).mono ?_; rintro e wX ⟨rfl, hbX⟩; have y := y.trans (hbX.mono y.size))
            | (go_at_call 14; with_reducible refine (cP3 _ (hM.below y)).mono ?_; rintro e wX ⟨rfl, hbX⟩; have y := y.trans (hbX.mono y.size)))
              go_ret
              exact ⟨rfl, y⟩
            | cons f r =>
              have hg : G = some f.2 := hgo
              subst hg
              clear hgo
              go_wp2_with (first
            | (go_at_call 12; with_reducible refine (cOn _ _ rr hL).mono ?_; rintro e wX ⟨aoX, capX, rfl, hrX, hbX⟩; have y := yr.trans (hbX.mono yr.size); obtain ⟨bX, offX, rfl, _, _, q2⟩ := row_first hrX)
            | (go_at_call 11; with_reducible refine (cRn _).mono ?_; rintro e wX ⟨rfl, hbX⟩; have y := y.trans (hbX.mono y.size))
            | (go_at_call 10; with_reducible refine (HSg.out _).mono ?_; rintro e wX ⟨rfl, hbX⟩; have y := y.trans (hbX.mono y.size))
            | (go_at_call 10; with_reducible refine (cSn _).mono ?_; rintro e wX ⟨rfl, hbX⟩; have y := y.trans (hbX.mono y.size))
            | (go_at_call 11; with_reducible refine (HRs.out _).mono ?_; rintro e wX ⟨rfl, hbX⟩; have y := y.trans (hbX.mono y.size))
            | (go_at_call 13; with_reducible refine (cA _).mono ?_; rintro e wX ⟨rfl, hbX⟩; have y := y.trans (hbX.mono y.size))
            | (go_at_call 14; with_reducible refine (cP1 _ (hM.below y)).mono ?_; rintro e wX ⟨rfl, hbX⟩; have y := y.trans (hbX.mono y.size))
            | (go_at_call 14; with_reducible refine (cP2 _ (hM.below y)).mono ?_; rintro e wX ⟨rfl, hbX⟩; have y := y.trans (hbX.mono y.size))
            | (go_at_call 14; with_reducible refine (cP3 _ (hM.below y)).mono ?_; rintro e wX ⟨rfl, hbX⟩; have y := y.trans (hbX.mono y.size)))
              go_ret
              exact ⟨rfl, y⟩
        · rw [hC] at cA
          clear cP1 cP2 cP3 hpp hpq hpr hC a1 a2 a3 a4 a5 l1 l3 t1 t3
          cases O with
          | nil =>
            have hg : G = none := hgo
            subst hg
            clear hgo
            go_wp2_with (first
            | (go_at_call 12; with_reducible refine (cOn _ _ rr hL).mono ?_; rintro e wX ⟨aoX, capX, rfl, _, hbX⟩; have y := yr.trans (hbX.mono yr.size))
            | (go_at_call 11; with_reducible refine (cRn _).mono ?_; rintro e wX ⟨rfl, hbX⟩; have y := y.trans (hbX.mono y.size))
            | (go_at_call 10; with_reducible refine (HSg.out _).mono ?_; rintro e wX ⟨rfl, hbX⟩; have y := y.trans (hbX.mono y.size))
            | (go_at_call 10; with_reducible refine (cSn _).mono ?_; rintro e wX ⟨rfl, hbX⟩; have y := y.trans (hbX.mono y.size))
            | (go_at_call 11; with_reducible refine (HRs.out _).mono ?_; rintro e wX ⟨rfl, hbX⟩; have y := y.trans (hbX.mono y.size))
            | (go_at_call 13; with_reducible refine (cA _).mono ?_; rintro e wX ⟨rfl, hbX⟩; have y := y.trans (hbX.mono y.size)))
            go_ret
            exact ⟨rfl, y⟩
          | cons f r =>
            have hg : G = some f.2 := hgo
            subst hg
            clear hgo
            go_wp2_with (first
            | (go_at_call 12; with_reducible refine (cOn _ _ rr hL).mono ?_; rintro e wX ⟨aoX, capX, rfl, hrX, hbX⟩; have y := yr.trans (hbX.mono yr.size); obtain ⟨bX, offX, rfl, _, _, q2⟩ := row_first hrX)
            | (go_at_call 11; with_reducible refine (cRn _).mono ?_; rintro e wX ⟨rfl, hbX⟩; have y := y.trans (hbX.mono y.size))
            | (go_at_call 10; with_reducible refine (HSg.out _).mono ?_; rintro e wX ⟨rfl, hbX⟩; have y := y.trans (hbX.mono y.size))
            | (go_at_call 10; with_reducible refine (cSn _).mono ?_; rintro e wX ⟨rfl, hbX⟩; have y := y.trans (hbX.mono y.size))
            | (go_at_call 11; with_reducible refine (HRs.out _).mono ?_; rintro e wX ⟨rfl, hbX⟩; have y := y.trans (hbX.mono y.size))
            | (go_at_call 13; with_reducible refine (cA _).mono ?_; rintro e wX ⟨rfl, hbX⟩; have y := y.trans (hbX.mono y.size)))
            go_ret
            exact ⟨rfl, y⟩
end Go.Proofs.YtmjfhhladicacaaDoor
