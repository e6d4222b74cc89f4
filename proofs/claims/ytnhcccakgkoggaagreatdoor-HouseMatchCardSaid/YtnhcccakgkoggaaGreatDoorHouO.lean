/- The walk over the statement HouseMatch. Conditions: utf8's two tables, bytealg.MaxLen, errors.errorType lie as the program's text lays them. -/
import Derived.Test.YtnhcccakgkoggaaGreatDoorHouN
import Derived.Deep.DeepCutAuto
import Derived.Deep.CutBlock
namespace Go.Proofs.YtnhcccakgkoggaaGreatDoor
open Go.RowKit Go.Shelf Go.Sort Go.Maps
set_option linter.unusedSimpArgs false

theorem cat_star (p : Bs) : (⟨p.toArray⟩ : ByteArray) ++ ⟨#[42]⟩ = ⟨(p ++ [42]).toArray⟩ := text_cat p [42]
theorem cat_most (p : Bs) : (⟨p.toArray⟩ : ByteArray) ++ ⟨#[37]⟩ = ⟨(p ++ [37]).toArray⟩ := text_cat p [37]
theorem star_cat (p : Bs) : (⟨#[42]⟩ : ByteArray) ++ ⟨p.toArray⟩ = ⟨(42 :: p).toArray⟩ := text_cat [42] p
theorem most_cat (p : Bs) : (⟨#[37]⟩ : ByteArray) ++ ⟨p.toArray⟩ = ⟨(37 :: p).toArray⟩ := text_cat [37] p
set_option linter.constructorNameAsVariable false in
set_option maxRecDepth 100000 in
set_option maxHeartbeats 8000000 in
theorem houseMatch_any (p s t : Bs) (w : World) (hC : HC w) (hp : p.length ≤ 9223372036854775807) (hs : s.length ≤ 9223372036854775807) (ht : t.length ≤ 9223372036854775807) :
    Calls Tryz.prog 3 #[.string ⟨p.toArray⟩, .string ⟨s.toArray⟩, .string ⟨t.toArray⟩] w fun e w' => e = .returned (.bool true) ∧ Below w.heap.size w w' := by
  have tp := text_size p
  have ts := text_size s
  have tt := text_size t
  by_cases hlong : 40 < p.length ∨ 80 < s.length ∨ 80 < t.length
  · by_cases h1 : 40 < p.length
    · have h1z : (40 : Int) < (p.length : Int) := by omega
      clear hlong h1
      go_enter Tryz.func3, Tryz.ntmps3
      go_wp2_with fail
      go_ret
      exact ⟨rfl, Below.refl _ _⟩
    · have h1z : ¬ ((40 : Int) < (p.length : Int)) := by omega
      by_cases h2 : 80 < s.length
      · have h2z : (80 : Int) < (s.length : Int) := by omega
        clear hlong h1 h2
        go_enter Tryz.func3, Tryz.ntmps3
        go_wp2_with fail
        go_ret
        exact ⟨rfl, Below.refl _ _⟩
      · have h2z : ¬ ((80 : Int) < (s.length : Int)) := by omega
        have h3z : (80 : Int) < (t.length : Int) := by omega
        clear hlong h1 h2
        go_enter Tryz.func3, Tryz.ntmps3
        go_wp2_with fail
        go_ret
        exact ⟨rfl, Below.refl _ _⟩
  have hpl : p.length ≤ 40 := by omega
  have hsl : s.length ≤ 80 := by omega
  have htl : t.length ≤ 80 := by omega
  have h1z : ¬ ((40 : Int) < (p.length : Int)) := by omega
  have h2z : ¬ ((80 : Int) < (s.length : Int)) := by omega
  have h3z : ¬ ((80 : Int) < (t.length : Int)) := by omega
  clear hlong hp hs ht
  have HCW := Lib.hid hC
  have cH := housed_any w hC
  have cA : ∀ W, Calls Tryz.prog 5 #[.string ⟨p.toArray⟩, .string ⟨#[42, 37]⟩] W fun e w' => e = .returned (.bool (Lib.containsAny p [42, 37])) ∧ Below W.heap.size W w' := fun W => containsAny_any ⟨p.toArray⟩ ⟨#[42, 37]⟩ W (by decide) (by decide) (by rw [tp]; omega) (by decide)
  have cM1 : ∀ W, Calls Tryz.prog 6 #[.string ⟨#[42]⟩, .string ⟨s.toArray⟩] W fun e w' => e = .returned (.bool true) ∧ Below W.heap.size W w' := fun W => by
    have := hmatch_any [42] s W (by decide) (by omega)
    rw [law_all] at this
    exact this
  have cM2 : ∀ W, Calls Tryz.prog 6 #[.string ⟨#[37]⟩, .string ⟨s.toArray⟩] W fun e w' => e = .returned (.bool (!Lib.contains s [47])) ∧ Below W.heap.size W w' := fun W => by
    have := hmatch_any [37] s W (by decide) (by omega)
    rw [law_flat] at this
    exact this
  have cS : ∀ W, Below w.heap.size w W → Calls Tryz.prog 7 #[.string ⟨s.toArray⟩, .string ⟨#[47]⟩] W fun e w' => e = .returned (.bool (Lib.contains s [47])) ∧ W = w' := fun W hW => has_slash s W (by omega) (HCW.out.below hW).1.2
  have cT : ∀ W, Below w.heap.size w W → Calls Tryz.prog 7 #[.string ⟨t.toArray⟩, .string ⟨#[47]⟩] W fun e w' => e = .returned (.bool (Lib.contains t [47])) ∧ W = w' := fun W hW => has_slash t W (by omega) (HCW.out.below hW).1.2
  have cM3 : ∀ W, Calls Tryz.prog 6 #[.string ⟨p.toArray⟩, .string ⟨s.toArray⟩] W fun e w' => e = .returned (.bool (matB p s)) ∧ Below W.heap.size W w' := fun W => hmatch_any p s W (by omega) (by omega)
  obtain ⟨ps, hps⟩ : ∃ ps, p ++ [42] = ps := ⟨_, rfl⟩
  have k1 := cat_star p
  rw [hps] at k1
  have cM4 : ∀ W, Calls Tryz.prog 6 #[.string ⟨ps.toArray⟩, .string ⟨s.toArray⟩] W fun e w' => e = .returned (.bool (matB ps s)) ∧ Below W.heap.size W w' := fun W => hmatch_any ps s W (by rw [← hps]; simp; omega) (by omega)
  have cP : ∀ W, Calls Tryz.prog 8 #[.string ⟨s.toArray⟩, .string ⟨p.toArray⟩] W fun e w' => e = .returned (.bool (Lib.hasPrefix s p)) ∧ W = w' := fun W => (Tryz.strings_HasPrefix ⟨s.toArray⟩ ⟨p.toArray⟩ W).mono fun _ _ ⟨h1, h2⟩ => ⟨h1, h2.symm⟩
  obtain ⟨b0, hb0⟩ : ∃ b, Lib.containsAny p [42, 37] = b := ⟨_, rfl⟩
  obtain ⟨bs, hbs⟩ : ∃ b, Lib.contains s [47] = b := ⟨_, rfl⟩
  obtain ⟨bp, hbp⟩ : ∃ b, Lib.hasPrefix s p = b := ⟨_, rfl⟩
  obtain ⟨bm, hbm⟩ : ∃ b, matB p s = b := ⟨_, rfl⟩
  rw [hb0] at cA
  rw [hbs] at cM2 cS
  rw [hbp] at cP
  rw [hbm] at cM3
  have HB0 := Lib.hid hb0
  have HBP := Lib.hid hbp
  have HBM := Lib.hid hbm
  have HPS := Lib.hid hps
  clear hC hb0 hbs hbp hbm hps
  go_enter Tryz.func3, Tryz.ntmps3
  go_upto_region 6 with (first
    | (go_at_call 4; ((with_reducible refine cH.mono ?_); rintro e w1 ⟨rfl, hb1⟩))
    | (go_at_call 5; ((with_reducible refine (cA _).mono ?_); rintro e w2 ⟨rfl, hb2⟩; have hb2 := hb1.trans (hb2.mono hb1.size))))
  go_cut [61] (fun s61 wx => s61 = .bool false ∧ Hid (Below w.heap.size w wx))
  case first =>
    cases b0 with
    | true =>
      cases bs
      all_goals
        go_wp2_with (first
        | (go_at_call 6; ((with_reducible refine (cM1 _).mono ?_); rintro e w3 ⟨rfl, hb3⟩; have hb3 := hb2.trans (hb3.mono hb2.size)))
        | (go_at_call 6; ((with_reducible refine (cM2 _).mono ?_); rintro e w4 ⟨rfl, hb4⟩; have hb4 := hb3.trans (hb4.mono hb3.size)))
        | (go_at_call 7; ((with_reducible refine (cS _ hb4).mono ?_); rintro e w5 ⟨rfl, rfl⟩)))
        go_meet
        exact ⟨rfl, Lib.hid hb4⟩
    | false =>
      have h3 : (p == s) = bm := by rw [← law_self HB0.out, HBM.out]
      have h4 : matB ps s = bp := by rw [← HPS.out, law_begin HB0.out, HBP.out]
      rw [h4] at cM4
      clear h4
      cases bs <;> cases bm <;> cases bp
      all_goals
        go_wp2_with (first
        | (go_at_call 6; ((with_reducible refine (cM1 _).mono ?_); rintro e w3 ⟨rfl, hb3⟩; have hb3 := hb2.trans (hb3.mono hb2.size)))
        | (go_at_call 6; ((with_reducible refine (cM2 _).mono ?_); rintro e w4 ⟨rfl, hb4⟩; have hb4 := hb3.trans (hb4.mono hb3.size)))
        | (go_at_call 7; ((with_reducible refine (cS _ hb4).mono ?_); rintro e w5 ⟨rfl, rfl⟩))
        | (go_at_call 6; ((with_reducible refine (cM3 _).mono ?_); rintro e w6 ⟨rfl, hb6⟩; have hb6 := hb4.trans (hb6.mono hb4.size)))
        | (go_at_call 6; ((with_reducible refine (cM4 _).mono ?_); rintro e w7 ⟨rfl, hb7⟩; have hb7 := hb6.trans (hb7.mono hb6.size)))
        | (go_at_call 8; ((with_reducible refine (cP _).mono ?_); rintro e w8 ⟨rfl, rfl⟩)))
        go_meet
        exact ⟨rfl, Lib.hid hb7⟩
  case rest =>
    obtain ⟨rfl, HY⟩ := hcut
    clear hb2 hb1 cH cA cM1 cM2 cM4 cS cP
    have tps := text_size ps
    have hpsl : ps.length ≤ 41 := by rw [← HPS.out]; simp; omega
    obtain ⟨st, hst⟩ : ∃ st, s ++ t = st := ⟨_, rfl⟩
    obtain ⟨tS, hts⟩ : ∃ tS, t ++ s = tS := ⟨_, rfl⟩
    obtain ⟨sp, hsp⟩ : ∃ sp, 42 :: p = sp := ⟨_, rfl⟩
    obtain ⟨pm, hpm⟩ : ∃ pm, p ++ [37] = pm := ⟨_, rfl⟩
    obtain ⟨mp, hmp⟩ : ∃ mp, 37 :: p = mp := ⟨_, rfl⟩
    obtain ⟨mm, hmm⟩ : ∃ mm, mp ++ [37] = mm := ⟨_, rfl⟩
    have k2 : (⟨s.toArray⟩ : ByteArray) ++ ⟨t.toArray⟩ = ⟨st.toArray⟩ := by rw [← hst]; exact text_cat s t
    have k3 : (⟨t.toArray⟩ : ByteArray) ++ ⟨s.toArray⟩ = ⟨tS.toArray⟩ := by rw [← hts]; exact text_cat t s
    have k4 : (⟨#[42]⟩ : ByteArray) ++ ⟨p.toArray⟩ = ⟨sp.toArray⟩ := by rw [← hsp]; exact star_cat p
    have k5 : (⟨p.toArray⟩ : ByteArray) ++ ⟨#[37]⟩ = ⟨pm.toArray⟩ := by rw [← hpm]; exact cat_most p
    have k6 : (⟨#[37]⟩ : ByteArray) ++ ⟨p.toArray⟩ = ⟨mp.toArray⟩ := by rw [← hmp]; exact most_cat p
    have k7 : (⟨mp.toArray⟩ : ByteArray) ++ ⟨#[37]⟩ = ⟨mm.toArray⟩ := by rw [← hmm]; exact cat_most mp
    have tmp := text_size mp
    have l2 : st.length ≤ 160 := by rw [← hst, List.length_append]; omega
    have l3 : tS.length ≤ 160 := by rw [← hts, List.length_append]; omega
    have l4 : sp.length ≤ 41 := by rw [← hsp]; simp; omega
    have l5 : pm.length ≤ 41 := by rw [← hpm]; simp; omega
    have l6 : mp.length ≤ 41 := by rw [← hmp]; simp; omega
    have l7 : mm.length ≤ 42 := by rw [← hmm]; simp; omega
    have hmm2 : mm = 37 :: (p ++ [37]) := by rw [← hmm, ← hmp]; rfl
    have cM5 : ∀ W, Calls Tryz.prog 6 #[.string ⟨ps.toArray⟩, .string ⟨st.toArray⟩] W fun e w' => e = .returned (.bool (matB ps st)) ∧ Below W.heap.size W w' := fun W => hmatch_any ps st W (by omega) (by omega)
    have cM6 : ∀ W, Calls Tryz.prog 6 #[.string ⟨sp.toArray⟩, .string ⟨tS.toArray⟩] W fun e w' => e = .returned (.bool (matB sp tS)) ∧ Below W.heap.size W w' := fun W => hmatch_any sp tS W (by omega) (by omega)
    have cM7 : ∀ W, Calls Tryz.prog 6 #[.string ⟨pm.toArray⟩, .string ⟨st.toArray⟩] W fun e w' => e = .returned (.bool (matB pm st)) ∧ Below W.heap.size W w' := fun W => hmatch_any pm st W (by omega) (by omega)
    have cM8 : ∀ W, Calls Tryz.prog 6 #[.string ⟨mm.toArray⟩, .string ⟨s.toArray⟩] W fun e w' => e = .returned (.bool (matB mm s)) ∧ Below W.heap.size W w' := fun W => hmatch_any mm s W (by omega) (by omega)
    obtain ⟨bt, hbt⟩ : ∃ b, Lib.contains t [47] = b := ⟨_, rfl⟩
    rw [hbt] at cT
    have H5 : bm = true → matB ps st = true := fun e => by rw [← HPS.out, ← hst]; exact law_more t (HBM.out.trans e)
    have H6 : bm = true → matB sp tS = true := fun e => by rw [← hsp, ← hts]; exact law_ahead t (HBM.out.trans e)
    have H7 : bm = true → bt = false → matB pm st = true := fun e1 e2 => by rw [← hpm, ← hst]; exact law_level (HBM.out.trans e1) (hbt.trans e2)
    have cC : ∀ W, Below w.heap.size w W → Calls Tryz.prog 7 #[.string ⟨s.toArray⟩, .string ⟨p.toArray⟩] W fun e w' => e = .returned (.bool (Lib.contains s p)) ∧ W = w' := fun W hW => by
      obtain ⟨m, hm⟩ := (HCW.out.below hW).1.2
      exact (Tryz.strings_Contains ⟨s.toArray⟩ ⟨p.toArray⟩ m W (by rw [ts]; omega) hm).mono fun _ _ ⟨h1, h2⟩ => ⟨h1, h2.symm⟩
    have cR : ∀ W, Below w.heap.size w W → Calls Tryz.prog 9 #[.string ⟨p.toArray⟩, .string ⟨s.toArray⟩] W fun e w' => e = .returned (.bool (aroundB p s)) ∧ W = w' := fun W hW => around_any p s W (by omega) (by omega) (HCW.out.below hW).1.2
    have H8 : b0 = false → matB mm s = (Lib.contains s p && aroundB p s) := fun e => by rw [hmm2]; exact law_around (HB0.out.trans e)
    obtain ⟨bc, hbc⟩ : ∃ b, Lib.contains s p = b := ⟨_, rfl⟩
    obtain ⟨ba, hba⟩ : ∃ b, aroundB p s = b := ⟨_, rfl⟩
    rw [hbc] at cC H8
    rw [hba] at cR H8
    have HH5 := Lib.hid H5
    have HH6 := Lib.hid H6
    have HH7 := Lib.hid H7
    have HH8 := Lib.hid H8
    clear hst hts hsp hpm hmp hmm hmm2 hbt hbc hba H5 H6 H7 H8 HPS HBM HB0 HBP
    go_upto_region 8 with (fail)
    go_cut [96] (fun s96 wx => s96 = .bool false ∧ Hid (Below w.heap.size w wx))
    case first =>
      have y := HY.out
      cases bm with
      | false =>
        go_wp2_with (go_at_call 6; ((with_reducible refine (cM3 _).mono ?_); rintro e w6 ⟨rfl, hb6⟩; have hb6 := y.trans (hb6.mono y.size)))
        go_meet
        exact ⟨rfl, Lib.hid hb6⟩
      | true =>
        have e5 := HH5.out rfl
        have e6 := HH6.out rfl
        rw [e5] at cM5
        rw [e6] at cM6
        clear e5 e6
        cases bt with
        | true =>
          go_wp2_with (first
            | (go_at_call 6; ((with_reducible refine (cM3 _).mono ?_); rintro e w6 ⟨rfl, hb6⟩; have hb6 := y.trans (hb6.mono y.size)))
            | (go_at_call 6; ((with_reducible refine (cM5 _).mono ?_); rintro e w7 ⟨rfl, hb7⟩; have hb7 := hb6.trans (hb7.mono hb6.size)))
            | (go_at_call 6; ((with_reducible refine (cM6 _).mono ?_); rintro e w8 ⟨rfl, hb8⟩; have hb8 := hb7.trans (hb8.mono hb7.size)))
            | (go_at_call 7; ((with_reducible refine (cT _ hb8).mono ?_); rintro e w9 ⟨rfl, rfl⟩)))
          go_meet
          exact ⟨rfl, Lib.hid hb8⟩
        | false =>
          have e7 := HH7.out rfl rfl
          rw [e7] at cM7
          clear e7
          go_wp2_with (first
            | (go_at_call 6; ((with_reducible refine (cM3 _).mono ?_); rintro e w6 ⟨rfl, hb6⟩; have hb6 := y.trans (hb6.mono y.size)))
            | (go_at_call 6; ((with_reducible refine (cM5 _).mono ?_); rintro e w7 ⟨rfl, hb7⟩; have hb7 := hb6.trans (hb7.mono hb6.size)))
            | (go_at_call 6; ((with_reducible refine (cM6 _).mono ?_); rintro e w8 ⟨rfl, hb8⟩; have hb8 := hb7.trans (hb8.mono hb7.size)))
            | (go_at_call 7; ((with_reducible refine (cT _ hb8).mono ?_); rintro e w9 ⟨rfl, rfl⟩))
            | (go_at_call 6; ((with_reducible refine (cM7 _).mono ?_); rintro e w10 ⟨rfl, hb10⟩; have hb10 := hb8.trans (hb10.mono hb8.size))))
          go_meet
          exact ⟨rfl, Lib.hid hb10⟩
    case rest =>
      clear HY
      obtain ⟨rfl, HY⟩ := hcut
      have y := HY.out
      cases b0 with
      | true =>
        go_wp2_with fail
        go_ret
        exact ⟨rfl, y⟩
      | false =>
        have e8 := HH8.out rfl
        rw [e8] at cM8
        clear e8
        cases bc <;> cases ba
        all_goals
          go_wp2_with (first
            | (go_at_call 6; ((with_reducible refine (cM8 _).mono ?_); rintro e w6 ⟨rfl, hb6⟩; have hb6 := y.trans (hb6.mono y.size)))
            | (go_at_call 7; ((with_reducible refine (cC _ hb6).mono ?_); rintro e w9 ⟨rfl, rfl⟩))
            | (go_at_call 9; ((with_reducible refine (cR _ hb6).mono ?_); rintro e w9 ⟨rfl, rfl⟩)))
          go_ret
          exact ⟨rfl, hb6⟩
end Go.Proofs.YtnhcccakgkoggaaGreatDoor
