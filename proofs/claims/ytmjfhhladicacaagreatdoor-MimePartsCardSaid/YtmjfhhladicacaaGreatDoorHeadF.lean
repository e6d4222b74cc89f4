/- The walk over head.Param: it returns what its plain function says. Condition: bytealg.MaxLen lies. -/
import Derived.Test.YtmjfhhladicacaaGreatDoorHeadE
namespace Go.Proofs.YtmjfhhladicacaaGreatDoor
open Go.RowKit Go.Shelf

theorem split_some (s sep : List UInt8) : ∃ p Q, Lib.split s sep = p :: Q := by
  unfold Lib.split
  cases Lib.count s sep with
  | zero => exact ⟨_, _, rfl⟩
  | succ k =>
    unfold Lib.splitK
    split
    · exact ⟨_, _, rfl⟩
    · exact ⟨_, _, rfl⟩
theorem param_step {Q : List (List UInt8)} {k : Nat} {p n : List UInt8} (hp : Q[k]? = some p) :
    paramF n (Q.drop k) = if !(Lib.cut p [61]).2.2 || smallL (trimB (Lib.cut p [61]).1) != smallL n then paramF n (Q.drop (k + 1)) else some (quotL (trimB (Lib.cut p [61]).2.1)) := by
  have hk : k < Q.length := (List.getElem?_eq_some_iff.1 hp).1
  have e : Q[k] = p := by rw [List.getElem?_eq_getElem hk] at hp; exact Option.some.inj hp
  rw [List.drop_eq_getElem_cons hk, e]
  rfl
theorem last_get (l : List UInt8) (h : l.length - 1 < (⟨l.toArray⟩ : ByteArray).size) : (⟨l.toArray⟩ : ByteArray)[l.length - 1]'h = l.getLastD 0 := by
  cases l with
  | nil => exact absurd h (by rw [text_size]; simp)
  | cons c r =>
    show (c :: r)[(c :: r).length - 1] = _
    rw [List.getLastD_eq_getLast?, List.getLast?_eq_getElem?, List.getElem?_eq_getElem (by simp)]
    rfl
theorem quot_part (l : List UInt8) : (⟨l.toArray⟩ : ByteArray).extract 1 (l.length - 1) = ⟨((l.drop 1).dropLast).toArray⟩ := by
  rw [text_part, List.dropLast_eq_take, List.length_drop]
theorem byte_eq34 (c : UInt8) : ((c.toNat : Int) == 34) = decide (c = 34) := by
  by_cases h : c = 34
  · subst h; rfl
  · rw [decide_eq_false h, beq_eq_false_iff_ne]
    intro h2; exact h (UInt8.toNat_inj.1 (by show c.toNat = 34; omega))

set_option maxRecDepth 100000 in
set_option maxHeartbeats 8000000 in
theorem param_any (V n : List UInt8) (w : World) (hV : V.length ≤ 1000000) (hn : n.length ≤ 1000000) (hM : MaxL w) :
    Calls Tryz.prog 48 #[.string ⟨V.toArray⟩, .string ⟨n.toArray⟩] w fun e w' => e = .returned (.tuple #[.string ⟨((paramL V n).getD []).toArray⟩, .bool (paramL V n).isSome]) ∧ Below w.heap.size w w' := by
  have cS := split_l V [59] w (by omega) (by decide) hM
  have hPl := fun p (hp : p ∈ Lib.split V [59]) => split_len hp
  have hPm := split_many V [59]
  obtain ⟨p0, Q, hPQ⟩ := split_some V [59]
  obtain ⟨R, hR⟩ : ∃ R, paramL V n = R := ⟨_, rfl⟩
  have hR2 : paramF n (Q.drop 0) = R := by rw [← hR]; unfold paramL; rw [hPQ]; rfl
  rw [hR]
  rw [hPQ] at cS hPl hPm
  rw [List.length_cons] at cS hPm
  have cN := fun W => small_any ⟨n.toArray⟩ W (by rw [text_size]; omega)
  simp only [List.toList_toArray] at cN
  generalize hsn : smallL n = N at cN
  have HPL := Lib.hid hPl
  have HR := Lib.hid hR2
  have HSN := Lib.hid hsn
  have hQm : Q.length ≤ 1000002 := by omega
  clear hPl hR hR2 hPQ hsn hPm
  by_cases hQ : Q = []
  · subst hQ
    have hg : R = none := HR.out.symm
    subst hg
    clear HR HPL
    go_enter Tryz.func48, Tryz.ntmps48
    go_wp2_with (first
      | (go_at_call 39; with_reducible refine cS.mono ?_; rintro e w1 ⟨rfl, hcl, hsz, hb1⟩))
    clear hcl cS
    go_loopg [17] 0 (fun g s17 wr => s17 = .int .i64 0 ∧ w1 = wr)
    case atStart => exact ⟨rfl, rfl⟩
    case round =>
      obtain ⟨rfl, rfl⟩ := hrel
      go_wp2_with fail
      go_ret2
      exact ⟨rfl, hb1⟩
  go_enter Tryz.func48, Tryz.ntmps48
  go_wp2_with (first
    | (go_at_call 39; with_reducible refine cS.mono ?_; rintro e w1 ⟨rfl, hcl, hsz, hb1⟩))
  have HCL := Lib.hid hcl
  have hM1 := hM.below hb1
  clear hcl cS
  go_loopg [17] Q.length (fun g s17 wr => ∃ (k : Nat), k + g = Q.length ∧ s17 = .int .i64 k ∧ Below w1.heap.size w1 wr ∧ Hid (paramF n (Q.drop k) = R))
  case atStart => exact ⟨0, by omega, rfl, Below.refl _ _, HR.out⟩
  case round =>
    obtain ⟨k, hk, rfl, hbr, Hf⟩ := hrel
    have hfin := fun (W : World) (hW : Below w1.heap.size w1 W) => hb1.trans (hW.mono hb1.size)
    by_cases hlt : k < Q.length
    · obtain ⟨g', rfl⟩ : ∃ g', gk = g' + 1 := ⟨gk - 1, by omega⟩
      obtain ⟨p, hp⟩ : ∃ p, Q[k]? = some p := ⟨Q[k], List.getElem?_eq_getElem hlt⟩
      have hcell := (hbr.cell (p := ⟨w.heap.size, k + 1, none⟩) hsz).trans (HCL.out (k + 1) p (by simpa using hp))
      have hcell2 : wr.cell? ⟨w.heap.size, 1 + k, none⟩ = some (.string ⟨p.toArray⟩) := by rw [Nat.add_comm]; exact hcell
      have hpl := HPL.out p (List.mem_cons_of_mem _ (List.mem_of_getElem? hp))
      have hst := Hf.out
      rw [param_step hp] at hst
      have hMr : MaxL wr := hM1.below hbr
      have cC := fun W hW => cut_l p 61 W (by omega) hW
      have hcl := cut_len p [61]
      generalize Lib.cut p [61] = C at cC hst hcl
      obtain ⟨x, v, ok⟩ := C
      simp only at cC hst hcl
      have cX := fun W => trim_two x W (by omega)
      have hxl : (trimB x).length ≤ x.length := trimS_len x _
      have cF := fun W => small_any ⟨(trimB x).toArray⟩ W (by rw [text_size]; omega)
      simp only [List.toList_toArray] at cF
      have cV := fun W => trim_two v W (by omega)
      have hvl : (trimB v).length ≤ v.length := trimS_len v _
      rw [HSN.out] at hst
      generalize smallL (trimB x) = A at cF hst
      clear hp
      cases ok
      · have HX : Hid (paramF n (Q.drop (k + 1)) = R) := by simp at hst; exact hst
        clear hst
        go_wp2_with (first
          | (go_at_call 45; with_reducible refine (cC _ hMr).mono ?_; rintro e w2 ⟨rfl, h2⟩; have y2 := hbr.trans (h2.mono hbr.size)))
        go_roundg g'
        case measure => omega
        case rel => exact ⟨k + 1, by omega, by go_num, y2, HX.out⟩
      · by_cases hq : A = N
        · subst hq
          have HX : Hid (some (quotL (trimB v)) = R) := by simp at hst; exact hst
          clear hst
          generalize trimB v = u at cV HX hvl
          have hut := text_size u
          by_cases h2 : 2 ≤ u.length
          · have hL1 : ((u.length : Int) - 1).toNat = u.length - 1 := by omega
            have hg0 : ∀ h, (⟨u.toArray⟩ : ByteArray)[0]'h = u.headD 0 := fun h => head_get u h
            have hgL : ∀ h, (⟨u.toArray⟩ : ByteArray)[u.length - 1]'h = u.getLastD 0 := fun h => last_get u h
            have hqp := quot_part u
            have e1 := byte_eq34 (u.headD 0)
            have e2 := byte_eq34 (u.getLastD 0)
            have hQ1 : quotL u = if u.headD 0 = 34 ∧ u.getLastD 0 = 34 then (u.drop 1).dropLast else u := by unfold quotL; simp [h2]
            generalize u.headD 0 = c0 at hg0 e1 hQ1
            generalize u.getLastD 0 = cL at hgL e2 hQ1
            have h2z : (2 : Int) ≤ (u.length : Int) := by omega
            by_cases k1 : c0 = 34
            · rw [decide_eq_true k1] at e1
              by_cases k2 : cL = 34
              · rw [decide_eq_true k2] at e2
                rw [if_pos ⟨k1, k2⟩] at hQ1
                have HQ := Lib.hid hQ1
                clear k1 k2 hQ1
                go_wp2_with (first
                  | (go_at_call 45; with_reducible refine (cC _ hMr).mono ?_; rintro e w2 ⟨rfl, h2⟩; have y2 := hbr.trans (h2.mono hbr.size))
                  | (go_at_call 47; with_reducible refine (cX _).mono ?_; rintro e w3 ⟨rfl, h3⟩; have y3 := y2.trans (h3.mono y2.size))
                  | (go_at_call 46; with_reducible refine (cF _).mono ?_; rintro e w4 ⟨rfl, h4⟩; have y4 := y3.trans (h4.mono y3.size))
                  | (go_at_call 46; with_reducible refine (cN _).mono ?_; rintro e w5 ⟨rfl, h5⟩; have y5 := y4.trans (h5.mono y4.size))
                  | (go_at_call 47; with_reducible refine (cV _).mono ?_; rintro e w6 ⟨rfl, h6⟩; have y6 := y5.trans (h6.mono y5.size)))
                go_ret2
                exact ⟨by rw [← HX.out, HQ.out, List.drop_one]; rfl, hfin _ y6⟩
              · rw [decide_eq_false k2] at e2
                rw [if_neg (fun h => k2 h.2)] at hQ1
                have HQ := Lib.hid hQ1
                clear k1 k2 hQ1
                go_wp2_with (first
                  | (go_at_call 45; with_reducible refine (cC _ hMr).mono ?_; rintro e w2 ⟨rfl, h2⟩; have y2 := hbr.trans (h2.mono hbr.size))
                  | (go_at_call 47; with_reducible refine (cX _).mono ?_; rintro e w3 ⟨rfl, h3⟩; have y3 := y2.trans (h3.mono y2.size))
                  | (go_at_call 46; with_reducible refine (cF _).mono ?_; rintro e w4 ⟨rfl, h4⟩; have y4 := y3.trans (h4.mono y3.size))
                  | (go_at_call 46; with_reducible refine (cN _).mono ?_; rintro e w5 ⟨rfl, h5⟩; have y5 := y4.trans (h5.mono y4.size))
                  | (go_at_call 47; with_reducible refine (cV _).mono ?_; rintro e w6 ⟨rfl, h6⟩; have y6 := y5.trans (h6.mono y5.size)))
                go_ret2
                exact ⟨by rw [← HX.out, HQ.out]; rfl, hfin _ y6⟩
            · rw [decide_eq_false k1] at e1
              rw [if_neg (fun h => k1 h.1)] at hQ1
              have HQ := Lib.hid hQ1
              clear k1 hQ1
              go_wp2_with (first
                | (go_at_call 45; with_reducible refine (cC _ hMr).mono ?_; rintro e w2 ⟨rfl, h2⟩; have y2 := hbr.trans (h2.mono hbr.size))
                | (go_at_call 47; with_reducible refine (cX _).mono ?_; rintro e w3 ⟨rfl, h3⟩; have y3 := y2.trans (h3.mono y2.size))
                | (go_at_call 46; with_reducible refine (cF _).mono ?_; rintro e w4 ⟨rfl, h4⟩; have y4 := y3.trans (h4.mono y3.size))
                | (go_at_call 46; with_reducible refine (cN _).mono ?_; rintro e w5 ⟨rfl, h5⟩; have y5 := y4.trans (h5.mono y4.size))
                | (go_at_call 47; with_reducible refine (cV _).mono ?_; rintro e w6 ⟨rfl, h6⟩; have y6 := y5.trans (h6.mono y5.size)))
              go_ret2
              exact ⟨by rw [← HX.out, HQ.out]; rfl, hfin _ y6⟩
          · have hQ1 : quotL u = u := by unfold quotL; rw [if_neg (fun h => h2 h.1)]
            have HQ := Lib.hid hQ1
            have h2z : ¬ ((2 : Int) ≤ (u.length : Int)) := by omega
            clear hQ1
            go_wp2_with (first
              | (go_at_call 45; with_reducible refine (cC _ hMr).mono ?_; rintro e w2 ⟨rfl, h2⟩; have y2 := hbr.trans (h2.mono hbr.size))
              | (go_at_call 47; with_reducible refine (cX _).mono ?_; rintro e w3 ⟨rfl, h3⟩; have y3 := y2.trans (h3.mono y2.size))
              | (go_at_call 46; with_reducible refine (cF _).mono ?_; rintro e w4 ⟨rfl, h4⟩; have y4 := y3.trans (h4.mono y3.size))
              | (go_at_call 46; with_reducible refine (cN _).mono ?_; rintro e w5 ⟨rfl, h5⟩; have y5 := y4.trans (h5.mono y4.size))
              | (go_at_call 47; with_reducible refine (cV _).mono ?_; rintro e w6 ⟨rfl, h6⟩; have y6 := y5.trans (h6.mono y5.size)))
            go_ret2
            exact ⟨by rw [← HX.out, HQ.out]; rfl, hfin _ y6⟩
        · have hqb : (A == N) = false := by simpa using hq
          have hqc : (A != N) = true := by simpa using hq
          have HX : Hid (paramF n (Q.drop (k + 1)) = R) := by rw [hqc] at hst; simp at hst; exact hst
          clear hst hqc
          go_wp2_with (first
            | (go_at_call 45; with_reducible refine (cC _ hMr).mono ?_; rintro e w2 ⟨rfl, h2⟩; have y2 := hbr.trans (h2.mono hbr.size))
            | (go_at_call 47; with_reducible refine (cX _).mono ?_; rintro e w3 ⟨rfl, h3⟩; have y3 := y2.trans (h3.mono y2.size))
            | (go_at_call 46; with_reducible refine (cF _).mono ?_; rintro e w4 ⟨rfl, h4⟩; have y4 := y3.trans (h4.mono y3.size))
            | (go_at_call 46; with_reducible refine (cN _).mono ?_; rintro e w5 ⟨rfl, h5⟩; have y5 := y4.trans (h5.mono y4.size)))
          go_roundg g'
          case measure => omega
          case rel => exact ⟨k + 1, by omega, by go_num, y5, HX.out⟩
    · have hg : R = none := by
        have := Hf.out
        rw [List.drop_eq_nil_of_le (by omega)] at this
        exact this.symm
      subst hg
      go_wp2_with fail
      go_ret2
      exact ⟨rfl, hfin _ hbr⟩
end Go.Proofs.YtmjfhhladicacaaGreatDoor
