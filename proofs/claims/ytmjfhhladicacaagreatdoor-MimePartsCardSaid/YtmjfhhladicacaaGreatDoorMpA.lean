/- The walk over the reference's kind: it returns what its plain function says. Conditions: bytealg.MaxLen and letterboxref.Fine lie as the program's text lays them. -/
import Derived.Test.YtmjfhhladicacaaGreatDoorHeadL
import Derived.Test.YtmjfhhladicacaaGreatDoorMimeA
import Derived.Test.YtmjfhhladicacaaGreatDoorPMime4
namespace Go.Proofs.YtmjfhhladicacaaGreatDoor
open Go.RowKit Go.Shelf

def kindR (h : List UInt8) : List UInt8 × List UInt8 := ((kindF h).1, if Lib.hasPrefix (kindF h).1 mpS then (kindF h).2 else [])
theorem fine_two {w : World} (h : FineG w) : w.cell? ⟨0, 0, none⟩ = some (.int .i64 0) ∧ w.cell? ⟨0, 1, none⟩ = some (.int .i64 (-1)) := h
theorem pre_iff (t p : List UInt8) : Lib.hasPrefix t p = true ↔ p.length ≤ t.length ∧ t.take p.length = p := by
  unfold Lib.hasPrefix
  constructor
  · intro h
    simp at h
    obtain ⟨r, rfl⟩ := h
    simp
  · rintro ⟨_, h⟩
    simp
    exact ⟨t.drop p.length, by conv => lhs; arg 1; rw [← h]
                               exact List.take_append_drop _ _⟩

set_option maxRecDepth 100000 in
set_option maxHeartbeats 8000000 in
theorem rkind_any (S : List UInt8) (w : World) (hs : S.length ≤ 9000) (hM : MaxL w) (hF : FineG w) :
    Calls Tryz.prog 23 #[.string ⟨S.toArray⟩] w fun e w' => e = .returned (.tuple #[.string ⟨(kindR S).1.toArray⟩, .string ⟨(kindR S).2.toArray⟩]) ∧ Below w.heap.size w w' := by
  have hK : kindF S = match fieldsL S with | .inl _ => (tpS, []) | .inr l => kindOf l := rfl
  have hlen := fun l (h : fieldsL S = .inr l) => fun v (hv : getF l ctS = some v) => getF_len h hv
  have cF := rfields_any S w hs hM hF
  obtain ⟨R, hR⟩ : ∃ R, kindR S = R := ⟨_, rfl⟩
  rw [hR]
  unfold kindR at hR
  cases hf : fieldsL S with
  | inl x =>
    rw [hf] at hK cF
    rw [hK] at hR
    have HR := Lib.hid hR
    have cF2 : Calls Tryz.prog 34 #[.string ⟨S.toArray⟩] w fun e w' => e = .returned (.tuple #[.slice none 0 0, .agg #[.int .i64 (x.1 : Int), .int .i64 (x.2 : Int)]]) ∧ Below w.heap.size w w' := by
      refine cF.mono ?_
      rintro e w' ⟨v, rfl, h1, h3⟩
      have h1' : v = .tuple #[.slice none 0 0, .agg #[.int .i64 (x.1 : Int), .int .i64 (x.2 : Int)]] := h1
      exact ⟨by rw [h1'], h3⟩
    have cG : ∀ W, Calls Tryz.prog 35 #[.slice none 0 0, .string ⟨#[99, 111, 110, 116, 101, 110, 116, 45, 116, 121, 112, 101]⟩] W fun e w' => e = .returned (.tuple #[.string ⟨#[]⟩, .bool false]) ∧ Below W.heap.size W w' := fun W =>
      rget_any _ [] ctS W (Or.inl ⟨rfl, rfl⟩) ⟨by simp, by intro f hf; simp at hf⟩ (by decide)
    have hx : ¬((x.2 : Int) = -1) := by omega
    clear hK hlen cF hR hf
    go_enter Tryz.func23, Tryz.ntmps23
    go_wp2_with (first
      | (go_at_call 34; with_reducible refine cF2.mono ?_; rintro e w1 ⟨rfl, h1⟩; have ya := h1.alloc h1.size (.cells #[.int .i64 (x.1 : Int), .int .i64 (x.2 : Int)] 49); have xa := World.heap_alloc_new w1 (.cells #[.int .i64 (x.1 : Int), .int .i64 (x.2 : Int)] 49))
      | (go_at_call 35; with_reducible refine (cG _).mono ?_; rintro e w2 ⟨rfl, h2⟩; have y := ya.trans (h2.mono ya.size); have xb := below_same h2 xa; have g0 := (two_cells xb).1; have g1 := (two_cells xb).2; have k0 := (fine_two (hF.below y)).1; have k1 := (fine_two (hF.below y)).2))
    go_ret2
    exact ⟨by rw [← HR.out]; rfl, y⟩
  | inr l =>
    have hl2 := hlen l hf
    rw [hf] at hK cF
    have hK2 : kindF S = match getF l ctS with | none => (tpS, []) | some v => (smallL (trimB (Lib.cut v [59]).1), (paramL v bnS).getD []) := hK
    have cF2 : Calls Tryz.prog 34 #[.string ⟨S.toArray⟩] w fun e w' => ∃ ao cap, e = .returned (.tuple #[.slice ao l.length cap, .agg #[.int .i64 0, .int .i64 (-1)]]) ∧ FldRow w' (.slice ao l.length cap) l ∧ Hid (Lens l) ∧ Below w.heap.size w w' := by
      refine cF.mono ?_
      rintro e w' ⟨v, rfl, ⟨ao, cap, rfl, h1, h2⟩, h3⟩
      exact ⟨ao, cap, rfl, h1, h2, h3⟩
    have cG := fun u W hv hl => rget_any u l ctS W hv hl (by decide)
    clear cF
    cases hv : getF l ctS with
    | none =>
      rw [hv] at hK2 cG
      rw [hK2] at hR
      have HR := Lib.hid hR
      unfold ctS at cG
      have cG2 : ∀ u W, FldRow W u l → Lens l → Calls Tryz.prog 35 #[u, .string ⟨#[99, 111, 110, 116, 101, 110, 116, 45, 116, 121, 112, 101]⟩] W fun e w' => e = .returned (.tuple #[.string ⟨#[]⟩, .bool false]) ∧ Below W.heap.size W w' := cG
      clear hK hK2 hlen hf hl2 hv hR cG
      go_enter Tryz.func23, Tryz.ntmps23
      go_wp2_with (first
        | (go_at_call 34; with_reducible refine cF2.mono ?_; rintro e w1 ⟨ao, cap, rfl, hr, HL, h1⟩; have f0 := (fine_two (hF.below h1)).1; have f1 := (fine_two (hF.below h1)).2; have ha := (Below.refl w1.heap.size w1).alloc (Nat.le_refl _) (.cells #[.int .i64 0, .int .i64 (-1)] 49); have ya := h1.alloc h1.size (.cells #[.int .i64 0, .int .i64 (-1)] 49); have xa := World.heap_alloc_new w1 (.cells #[.int .i64 0, .int .i64 (-1)] 49))
        | (go_at_call 35; with_reducible refine (cG2 _ _ (hr.below ha) HL.out).mono ?_; rintro e w2 ⟨rfl, h2⟩; have y := ya.trans (h2.mono ya.size); have xb := below_same h2 xa; have g0 := (two_cells xb).1; have g1 := (two_cells xb).2; have k0 := (fine_two (hF.below y)).1; have k1 := (fine_two (hF.below y)).2))
      go_ret2
      exact ⟨by rw [← HR.out]; rfl, y⟩
    | some v =>
      have hvl := hl2 v hv
      rw [hv] at hK2 cG
      obtain ⟨Q, hQ⟩ := split_first v 59
      have hcl : (Lib.cut v [59]).1.length ≤ v.length := (cut_len v [59]).1
      obtain ⟨c1, hc1⟩ : ∃ c1, (Lib.cut v [59]).1 = c1 := ⟨_, rfl⟩
      rw [hc1] at hQ hcl
      have htl : (trimB c1).length ≤ c1.length := trimS_len c1 [32, 9]
      have hsl : (smallL (trimB c1)).length = (trimB c1).length := by unfold smallL; rw [List.length_map]
      have cB := fun W => rbare_any c1 W (by omega)
      have cM := fun W => rsmall_any (trimB c1) W (by omega)
      have cP : ∀ W, MaxL W → Calls Tryz.prog 36 #[.string ⟨v.toArray⟩, .string ⟨#[98, 111, 117, 110, 100, 97, 114, 121]⟩] W fun e w' => ∃ b, e = .returned (.tuple #[.string ⟨((paramL v bnS).getD []).toArray⟩, .bool b]) ∧ Below W.heap.size W w' := fun W hW => by
        refine (rparam_any v bnS W (by omega) (by decide) hW).mono ?_
        rintro e w' ⟨rfl, h⟩
        exact ⟨_, rfl, h⟩
      have cS : ∀ W, MaxL W → Calls Tryz.prog 39 #[.string ⟨v.toArray⟩, .string ⟨#[59]⟩] W fun e w' => e = .returned (.slice (some ⟨W.heap.size, 0, none⟩) (Q.length + 1) (Q.length + 1)) ∧ w'.cell? ⟨W.heap.size, 0, none⟩ = some (.string ⟨c1.toArray⟩) ∧ Below W.heap.size W w' := fun W hW => by
        refine (split_l v [59] W (by omega) (by decide) hW).mono ?_
        rw [hQ]
        rintro e w' ⟨rfl, h1, h2, h3⟩
        exact ⟨rfl, h1 0 c1 rfl, h3⟩
      have hR2 : (smallL (trimB c1), if Lib.hasPrefix (smallL (trimB c1)) mpS then (paramL v bnS).getD [] else []) = R := by
        rw [← hR, hK2]
        show _ = ((smallL (trimB (Lib.cut v [59]).1)), if Lib.hasPrefix (smallL (trimB (Lib.cut v [59]).1)) mpS = true then _ else _)
        rw [hc1]
      have cG2 : ∀ u W, FldRow W u l → Lens l → Calls Tryz.prog 35 #[u, .string ⟨#[99, 111, 110, 116, 101, 110, 116, 45, 116, 121, 112, 101]⟩] W fun e w' => e = .returned (.tuple #[.string ⟨v.toArray⟩, .bool true]) ∧ Below W.heap.size W w' := cG
      generalize smallL (trimB c1) = tt at hR2 cM hsl
      generalize trimB c1 = tb at cB cM htl hsl
      generalize (paramL v bnS).getD [] = bd at hR2 cP
      have tts := text_size tt
      have httl : tt.length ≤ 1000000 := by omega
      clear hK hK2 hlen hf hl2 hv hR cG hQ hc1 hcl htl hsl
      by_cases h10 : tt.length < 10
      · have hno : Lib.hasPrefix tt mpS = false := by
          cases h : Lib.hasPrefix tt mpS
          · rfl
          · have := ((pre_iff _ _).1 h).1
            have h2 : mpS.length = 10 := rfl
            omega
        rw [hno] at hR2
        have HX : Hid ((tt, ([] : List UInt8)) = R) := hR2
        clear hno hR2
        go_enter Tryz.func23, Tryz.ntmps23
        go_wp2_with (first
          | (go_at_call 34; with_reducible refine cF2.mono ?_; rintro e w1 ⟨ao, cap, rfl, hr, HL, h1⟩; have f0 := (fine_two (hF.below h1)).1; have f1 := (fine_two (hF.below h1)).2; have ha := (Below.refl w1.heap.size w1).alloc (Nat.le_refl _) (.cells #[.int .i64 0, .int .i64 (-1)] 49); have ya := h1.alloc h1.size (.cells #[.int .i64 0, .int .i64 (-1)] 49); have xa := World.heap_alloc_new w1 (.cells #[.int .i64 0, .int .i64 (-1)] 49))
          | (go_at_call 35; with_reducible refine (cG2 _ _ (hr.below ha) HL.out).mono ?_; rintro e w2 ⟨rfl, h2⟩; have y := ya.trans (h2.mono ya.size); have xb := below_same h2 xa; have g0 := (two_cells xb).1; have g1 := (two_cells xb).2; have k0 := (fine_two (hF.below y)).1; have k1 := (fine_two (hF.below y)).2)
          | (go_at_call 36; with_reducible refine (cP _ (hM.below y)).mono ?_; rintro e w3 ⟨pb, rfl, h3⟩; have y := y.trans (h3.mono y.size))
          | (go_at_call 39; with_reducible refine (cS _ (hM.below y)).mono ?_; rintro e w4 ⟨rfl, s0, h4⟩; have y := y.trans (h4.mono y.size))
          | (go_at_call 38; with_reducible refine (cB _).mono ?_; rintro e w5 ⟨rfl, hw⟩; rw [← hw]; clear hw)
          | (go_at_call 37; with_reducible refine (cM _).mono ?_; rintro e w6 ⟨rfl, h6⟩; have y := y.trans (h6.mono y.size)))
        go_ret2
        exact ⟨by rw [← HX.out]; rfl, y⟩
      · have hpt : (⟨tt.toArray⟩ : ByteArray).extract 0 10 = ⟨(tt.take 10).toArray⟩ := by rw [text_part]; simp
        by_cases hpx : tt.take 10 = mpS
        · have hyes : Lib.hasPrefix tt mpS = true := (pre_iff _ _).2 ⟨by have h2 : mpS.length = 10 := rfl; omega, hpx⟩
          rw [hyes] at hR2
          rw [hpx] at hpt
          unfold mpS at hpt
          have HX : Hid ((tt, bd) = R) := hR2
          clear hyes hR2 hpx
          go_enter Tryz.func23, Tryz.ntmps23
          go_wp2_with (first
          | (go_at_call 34; with_reducible refine cF2.mono ?_; rintro e w1 ⟨ao, cap, rfl, hr, HL, h1⟩; have f0 := (fine_two (hF.below h1)).1; have f1 := (fine_two (hF.below h1)).2; have ha := (Below.refl w1.heap.size w1).alloc (Nat.le_refl _) (.cells #[.int .i64 0, .int .i64 (-1)] 49); have ya := h1.alloc h1.size (.cells #[.int .i64 0, .int .i64 (-1)] 49); have xa := World.heap_alloc_new w1 (.cells #[.int .i64 0, .int .i64 (-1)] 49))
          | (go_at_call 35; with_reducible refine (cG2 _ _ (hr.below ha) HL.out).mono ?_; rintro e w2 ⟨rfl, h2⟩; have y := ya.trans (h2.mono ya.size); have xb := below_same h2 xa; have g0 := (two_cells xb).1; have g1 := (two_cells xb).2; have k0 := (fine_two (hF.below y)).1; have k1 := (fine_two (hF.below y)).2)
          | (go_at_call 36; with_reducible refine (cP _ (hM.below y)).mono ?_; rintro e w3 ⟨pb, rfl, h3⟩; have y := y.trans (h3.mono y.size))
          | (go_at_call 39; with_reducible refine (cS _ (hM.below y)).mono ?_; rintro e w4 ⟨rfl, s0, h4⟩; have y := y.trans (h4.mono y.size))
          | (go_at_call 38; with_reducible refine (cB _).mono ?_; rintro e w5 ⟨rfl, hw⟩; rw [← hw]; clear hw)
          | (go_at_call 37; with_reducible refine (cM _).mono ?_; rintro e w6 ⟨rfl, h6⟩; have y := y.trans (h6.mono y.size)))
          go_ret2
          exact ⟨by rw [← HX.out]; rfl, y⟩
        · have hno : Lib.hasPrefix tt mpS = false := by
            cases h : Lib.hasPrefix tt mpS
            · rfl
            · exact absurd ((pre_iff _ _).1 h).2 hpx
          rw [hno] at hR2
          have hqb : (tt.take 10 == ([109, 117, 108, 116, 105, 112, 97, 114, 116, 47] : List UInt8)) = false := by
            have h2 : ¬tt.take 10 = [109, 117, 108, 116, 105, 112, 97, 114, 116, 47] := hpx
            simpa using h2
          have HX : Hid ((tt, ([] : List UInt8)) = R) := hR2
          clear hno hR2 hpx
          generalize tt.take 10 = z at hpt hqb
          go_enter Tryz.func23, Tryz.ntmps23
          go_wp2_with (first
          | (go_at_call 34; with_reducible refine cF2.mono ?_; rintro e w1 ⟨ao, cap, rfl, hr, HL, h1⟩; have f0 := (fine_two (hF.below h1)).1; have f1 := (fine_two (hF.below h1)).2; have ha := (Below.refl w1.heap.size w1).alloc (Nat.le_refl _) (.cells #[.int .i64 0, .int .i64 (-1)] 49); have ya := h1.alloc h1.size (.cells #[.int .i64 0, .int .i64 (-1)] 49); have xa := World.heap_alloc_new w1 (.cells #[.int .i64 0, .int .i64 (-1)] 49))
          | (go_at_call 35; with_reducible refine (cG2 _ _ (hr.below ha) HL.out).mono ?_; rintro e w2 ⟨rfl, h2⟩; have y := ya.trans (h2.mono ya.size); have xb := below_same h2 xa; have g0 := (two_cells xb).1; have g1 := (two_cells xb).2; have k0 := (fine_two (hF.below y)).1; have k1 := (fine_two (hF.below y)).2)
          | (go_at_call 36; with_reducible refine (cP _ (hM.below y)).mono ?_; rintro e w3 ⟨pb, rfl, h3⟩; have y := y.trans (h3.mono y.size))
          | (go_at_call 39; with_reducible refine (cS _ (hM.below y)).mono ?_; rintro e w4 ⟨rfl, s0, h4⟩; have y := y.trans (h4.mono y.size))
          | (go_at_call 38; with_reducible refine (cB _).mono ?_; rintro e w5 ⟨rfl, hw⟩; rw [← hw]; clear hw)
          | (go_at_call 37; with_reducible refine (cM _).mono ?_; rintro e w6 ⟨rfl, h6⟩; have y := y.trans (h6.mono y.size)))
          go_ret2
          exact ⟨by rw [← HX.out]; rfl, y⟩
end Go.Proofs.YtmjfhhladicacaaGreatDoor
