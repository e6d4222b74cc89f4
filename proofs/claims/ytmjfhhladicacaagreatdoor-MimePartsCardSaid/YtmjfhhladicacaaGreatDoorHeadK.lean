/- The walk over the reference's Param: it returns what its plain function says. Condition: bytealg.MaxLen lies. -/
import Derived.Test.YtmjfhhladicacaaGreatDoorHeadJ
namespace Go.Proofs.YtmjfhhladicacaaGreatDoor
open Go.RowKit Go.Shelf

theorem param_ref {p : List UInt8} : (Lib.indexByte p 61 < 0 → (Lib.cut p [61]).2.2 = false) ∧ ∀ i : Nat, Lib.indexByte p 61 = i → (Lib.cut p [61]).2.2 = true ∧ (Lib.cut p [61]).1 = p.take i ∧ (Lib.cut p [61]).2.1 = p.drop (i + 1) := by
  obtain ⟨h1, h2⟩ := cut_index p 61
  refine ⟨fun h => by rw [h1]; simp; omega, fun i hi => ?_⟩
  rw [hi] at h1 h2
  have h3 := h2 (by omega)
  refine ⟨by rw [h1]; simp, ?_, ?_⟩
  · rw [h3.1, Int.toNat_natCast]
  · rw [h3.2, Int.toNat_natCast]

set_option maxRecDepth 100000 in
set_option maxHeartbeats 8000000 in
theorem rparam_any (V n : List UInt8) (w : World) (hV : V.length ≤ 1000000) (hn : n.length ≤ 1000000) (hM : MaxL w) :
    Calls Tryz.prog 36 #[.string ⟨V.toArray⟩, .string ⟨n.toArray⟩] w fun e w' => e = .returned (.tuple #[.string ⟨((paramL V n).getD []).toArray⟩, .bool (paramL V n).isSome]) ∧ Below w.heap.size w w' := by
  have cS := split_l V [59] w (by omega) (by decide) hM
  have hPl := fun p (hp : p ∈ Lib.split V [59]) => split_len hp
  have hPm := split_many V [59]
  obtain ⟨p0, Q, hPQ⟩ := split_some V [59]
  obtain ⟨R, hR⟩ : ∃ R, paramL V n = R := ⟨_, rfl⟩
  have hR2 : paramF n (Q.drop 0) = R := by rw [← hR]; unfold paramL; rw [hPQ]; rfl
  rw [hR]
  rw [hPQ] at cS hPl hPm
  rw [List.length_cons] at cS hPm
  have cN := fun W => rsmall_any n W (by omega)
  generalize hsn : smallL n = N at cN
  have HPL := Lib.hid hPl
  have HR := Lib.hid hR2
  have HSN := Lib.hid hsn
  have hQm : Q.length ≤ 1000002 := by omega
  clear hPl hR hR2 hPQ hsn hPm
  go_enter Tryz.func36, Tryz.ntmps36
  go_wp2_with (first
    | (go_at_call 39; with_reducible refine cS.mono ?_; rintro e w1 ⟨rfl, hcl, hsz, hb1⟩))
  have HCL := Lib.hid hcl
  have hM1 := hM.below hb1
  clear hcl cS
  go_loopg [13] (Q.length + 1) (fun g s13 wr => ∃ (k : Nat), k + g = Q.length + 1 ∧ s13 = .int .i64 k ∧ Below w1.heap.size w1 wr ∧ Hid (paramF n (Q.drop (k - 1)) = R))
  case atStart => exact ⟨0, by omega, rfl, Below.refl _ _, HR.out⟩
  case round =>
    obtain ⟨k, hk, rfl, hbr, Hf⟩ := hrel
    have hfin := fun (W : World) (hW : Below w1.heap.size w1 W) => hb1.trans (hW.mono hb1.size)
    by_cases hlt : k < Q.length + 1
    · obtain ⟨g', rfl⟩ : ∃ g', gk = g' + 1 := ⟨gk - 1, by omega⟩
      obtain ⟨p, hp⟩ : ∃ p, (p0 :: Q)[k]? = some p := ⟨(p0 :: Q)[k], List.getElem?_eq_getElem (by simp; omega)⟩
      have hcell := (hbr.cell (p := ⟨w.heap.size, k, none⟩) hsz).trans (HCL.out k p hp)
      have hpl := HPL.out p (List.mem_of_getElem? hp)
      have hltz : (k : Int) < (Q.length : Int) + 1 := by omega
      have cI := Tryz.strings_IndexByte ⟨p.toArray⟩ 61 wr
      have eI : Lib.indexByte (⟨p.toArray⟩ : ByteArray).data.toList (61 : Int).toNat.toUInt8 = Lib.indexByte p 61 := rfl
      rw [eI] at cI
      have hge := Lib.indexByte_ge p 61
      have hil := indexByte_lt p 61
      cases k with
      | zero =>
        have hf2 := Lib.hid (show paramF n (Q.drop (0 + 1 - 1)) = R from Hf.out)
        clear hp eI
        generalize Lib.indexByte p 61 = I at cI hge hil
        go_wp2_with (first
          | (go_at_call 54; with_reducible refine cI.mono ?_; rintro e w2 ⟨rfl, hw⟩; rw [hw]; clear hw))
        go_roundg g'
        case measure => omega
        case rel => exact ⟨1, by omega, by go_num, hbr, hf2.out⟩
      | succ j =>
        have hst := Hf.out
        rw [show j + 1 - 1 = j by omega, param_step (show Q[j]? = some p by simpa using hp)] at hst
        have hcr := param_ref (p := p)
        have h0z : ((j : Int) + 1 == 0) = false := by rw [beq_eq_false_iff_ne]; omega
        generalize Lib.indexByte p 61 = I at cI hge hil hcr
        by_cases h0 : I < 0
        · have HX : Hid (paramF n (Q.drop (j + 1)) = R) := by show _ = _; rw [hcr.1 h0] at hst; simpa using hst
          clear hst hcr hil hp
          go_wp2_with (first
            | (go_at_call 54; with_reducible refine cI.mono ?_; rintro e w2 ⟨rfl, hw⟩; rw [hw]; clear hw))
          go_roundg g'
          case measure => omega
          case rel => exact ⟨j + 1 + 1, by omega, by go_num, hbr, HX.out⟩
        · obtain ⟨i, rfl⟩ := Int.eq_ofNat_of_zero_le (show 0 ≤ I by omega)
          obtain ⟨r1, r2, r3⟩ := hcr.2 i rfl
          rw [r1, r2, r3] at hst
          have hil2 : i + 1 ≤ p.length := by omega
          have hpt1 : (⟨p.toArray⟩ : ByteArray).extract 0 i = ⟨(p.take i).toArray⟩ := by rw [text_part]; simp
          have hpt2 : (⟨p.toArray⟩ : ByteArray).extract (i + 1) p.length = ⟨(p.drop (i + 1)).toArray⟩ := by rw [text_part, List.take_of_length_le (by simp)]
          have hi0 : decide ((i : Int) < 0) = false := by rw [decide_eq_false_iff_not]; omega
          have hts := text_size p
          have hw1 : IntKind.i64.wrap ((i : Int) + 1) = (i : Int) + 1 := IntWalk.i64_in _ (by omega)
          have cX := fun W => rbare_any (p.take i) W (by rw [List.length_take]; omega)
          rw [← hpt1] at cX
          have cV := fun W => rbare_any (p.drop (i + 1)) W (by simp; omega)
          rw [← hpt2] at cV
          have hxl : (trimB (p.take i)).length ≤ p.length := Nat.le_trans (trimS_len _ _) (by first | (rw [List.length_take]; omega) | (rw [List.length_drop]; omega))
          have hvl : (trimB (p.drop (i + 1))).length ≤ p.length := Nat.le_trans (trimS_len _ _) (by first | (rw [List.length_take]; omega) | (rw [List.length_drop]; omega))
          have cF := fun W => rsmall_any (trimB (p.take i)) W (by omega)
          generalize trimB (p.take i) = x at hst cX hxl cF
          generalize trimB (p.drop (i + 1)) = u at hst cV hvl
          rw [HSN.out] at hst
          generalize smallL x = A at cF hst
          clear hp hcr r1 r2 r3 hil hge h0 hpt1 hpt2
          by_cases hq : A = N
          · subst hq
            have HX : Hid (some (quotL u) = R) := by simp at hst; exact hst
            clear hst
            have hut := text_size u
            by_cases h2 : 2 ≤ u.length
            · have hL1 : ((u.length : Int) - 1).toNat = u.length - 1 := by omega
              have hg0 : ∀ h, (⟨u.toArray⟩ : ByteArray)[0]'h = u.headD 0 := fun h => head_get u h
              have hgL : ∀ h, (⟨u.toArray⟩ : ByteArray)[u.length - 1]'h = u.getLastD 0 := fun h => last_get u h
              have hqp := quot_part u
              have e1 := byte_eq34 (u.headD 0)
              have e2 := byte_eq34 (u.getLastD 0)
              have hQ1 : quotL u = if u.headD 0 = 34 ∧ u.getLastD 0 = 34 then (u.drop 1).dropLast else u := by unfold quotL; simp [h2]
              generalize u.headD 0 = c0 at hg0 e1 hQ1
              generalize u.getLastD 0 = cL at hgL e2 hQ1
              have h2z : (1 : Int) < (u.length : Int) := by omega
              by_cases k1 : c0 = 34
              · rw [decide_eq_true k1] at e1
                by_cases k2 : cL = 34
                · rw [decide_eq_true k2] at e2
                  rw [if_pos ⟨k1, k2⟩] at hQ1
                  have HQ := Lib.hid hQ1
                  clear k1 k2 hQ1
                  go_wp2_with (first
                    | (go_at_call 54; with_reducible refine cI.mono ?_; rintro e w2 ⟨rfl, hw⟩; rw [hw]; clear hw)
                    | (go_at_call 38; with_reducible refine (cX _).mono ?_; rintro e w3 ⟨rfl, hw⟩; rw [← hw]; clear hw)
                    | (go_at_call 37; with_reducible refine (cF _).mono ?_; rintro e w4 ⟨rfl, h4⟩; have y4 := hbr.trans (h4.mono hbr.size))
                    | (go_at_call 37; with_reducible refine (cN _).mono ?_; rintro e w5 ⟨rfl, h5⟩; have y5 := y4.trans (h5.mono y4.size))
                    | (go_at_call 38; with_reducible refine (cV _).mono ?_; rintro e w6 ⟨rfl, hw⟩; rw [← hw]; clear hw))
                  go_ret2
                  exact ⟨by rw [← HX.out, HQ.out, List.drop_one]; rfl, hfin _ y5⟩
                · rw [decide_eq_false k2] at e2
                  rw [if_neg (fun h => k2 h.2)] at hQ1
                  have HQ := Lib.hid hQ1
                  clear k1 k2 hQ1
                  go_wp2_with (first
                    | (go_at_call 54; with_reducible refine cI.mono ?_; rintro e w2 ⟨rfl, hw⟩; rw [hw]; clear hw)
                    | (go_at_call 38; with_reducible refine (cX _).mono ?_; rintro e w3 ⟨rfl, hw⟩; rw [← hw]; clear hw)
                    | (go_at_call 37; with_reducible refine (cF _).mono ?_; rintro e w4 ⟨rfl, h4⟩; have y4 := hbr.trans (h4.mono hbr.size))
                    | (go_at_call 37; with_reducible refine (cN _).mono ?_; rintro e w5 ⟨rfl, h5⟩; have y5 := y4.trans (h5.mono y4.size))
                    | (go_at_call 38; with_reducible refine (cV _).mono ?_; rintro e w6 ⟨rfl, hw⟩; rw [← hw]; clear hw))
                  go_ret2
                  exact ⟨by rw [← HX.out, HQ.out]; rfl, hfin _ y5⟩
              · rw [decide_eq_false k1] at e1
                rw [if_neg (fun h => k1 h.1)] at hQ1
                have HQ := Lib.hid hQ1
                clear k1 hQ1
                go_wp2_with (first
                  | (go_at_call 54; with_reducible refine cI.mono ?_; rintro e w2 ⟨rfl, hw⟩; rw [hw]; clear hw)
                  | (go_at_call 38; with_reducible refine (cX _).mono ?_; rintro e w3 ⟨rfl, hw⟩; rw [← hw]; clear hw)
                  | (go_at_call 37; with_reducible refine (cF _).mono ?_; rintro e w4 ⟨rfl, h4⟩; have y4 := hbr.trans (h4.mono hbr.size))
                  | (go_at_call 37; with_reducible refine (cN _).mono ?_; rintro e w5 ⟨rfl, h5⟩; have y5 := y4.trans (h5.mono y4.size))
                  | (go_at_call 38; with_reducible refine (cV _).mono ?_; rintro e w6 ⟨rfl, hw⟩; rw [← hw]; clear hw))
                go_ret2
                exact ⟨by rw [← HX.out, HQ.out]; rfl, hfin _ y5⟩
            · have hQ1 : quotL u = u := by unfold quotL; rw [if_neg (fun h => h2 h.1)]
              have HQ := Lib.hid hQ1
              have h2z : ¬ ((1 : Int) < (u.length : Int)) := by omega
              clear hQ1
              go_wp2_with (first
                | (go_at_call 54; with_reducible refine cI.mono ?_; rintro e w2 ⟨rfl, hw⟩; rw [hw]; clear hw)
                | (go_at_call 38; with_reducible refine (cX _).mono ?_; rintro e w3 ⟨rfl, hw⟩; rw [← hw]; clear hw)
                | (go_at_call 37; with_reducible refine (cF _).mono ?_; rintro e w4 ⟨rfl, h4⟩; have y4 := hbr.trans (h4.mono hbr.size))
                | (go_at_call 37; with_reducible refine (cN _).mono ?_; rintro e w5 ⟨rfl, h5⟩; have y5 := y4.trans (h5.mono y4.size))
                | (go_at_call 38; with_reducible refine (cV _).mono ?_; rintro e w6 ⟨rfl, hw⟩; rw [← hw]; clear hw))
              go_ret2
              exact ⟨by rw [← HX.out, HQ.out]; rfl, hfin _ y5⟩
          · have hqb : (A == N) = false := by simpa using hq
            have hqc : (A != N) = true := by simpa using hq
            have HX : Hid (paramF n (Q.drop (j + 1)) = R) := by rw [hqc] at hst; simp at hst; exact hst
            clear hst hqc
            go_wp2_with (first
              | (go_at_call 54; with_reducible refine cI.mono ?_; rintro e w2 ⟨rfl, hw⟩; rw [hw]; clear hw)
              | (go_at_call 38; with_reducible refine (cX _).mono ?_; rintro e w3 ⟨rfl, hw⟩; rw [← hw]; clear hw)
              | (go_at_call 37; with_reducible refine (cF _).mono ?_; rintro e w4 ⟨rfl, h4⟩; have y4 := hbr.trans (h4.mono hbr.size))
              | (go_at_call 37; with_reducible refine (cN _).mono ?_; rintro e w5 ⟨rfl, h5⟩; have y5 := y4.trans (h5.mono y4.size)))
            go_roundg g'
            case measure => omega
            case rel => exact ⟨j + 1 + 1, by omega, by go_num, y5, HX.out⟩
    · have hg : R = none := by
        have := Hf.out
        rw [List.drop_eq_nil_of_le (by omega)] at this
        exact this.symm
      subst hg
      go_wp2_with fail
      go_ret2
      exact ⟨rfl, hfin _ hbr⟩
end Go.Proofs.YtmjfhhladicacaaGreatDoor
