/- The walk over the reference's part: it returns what the plain function says, counts the parts, and leaves all else. Conditions: bytealg.MaxLen and letterboxref.Fine lie as the program's text lays them. -/
import Derived.Test.YtmjfhhladicacaaGreatDoorMpB
import Derived.Deep.DeepCutAuto
import Derived.Deep.CutBlock
namespace Go.Proofs.YtmjfhhladicacaaGreatDoor
open Go.RowKit Go.Shelf

theorem count_step {l : List UInt8} {i : Nat} {c : UInt8} (h : l[i]? = some c) : (l.take (i + 1)).count 10 = (l.take i).count 10 + if c = 10 then 1 else 0 := by
  rw [List.take_add_one, h, List.count_append]
  show _ + [c].count 10 = _
  by_cases hc : c = 10
  · subst hc; simp
  · rw [if_neg hc, List.count_cons_of_ne hc]; rfl
theorem multi_iff (H : List UInt8) : multi (kindF H) = !(kindR H).2.isEmpty := by
  unfold multi kindR
  simp only
  cases Lib.hasPrefix (kindF H).1 mpS <;> simp

/-- the reference's part, so deep -/
def RPartOk (S : List UInt8) (g : Nat) : Prop := ∀ (n fr te Q : Nat) (d : Int) (w : World), g ≤ 7 → d = 7 - (g : Int) → fr ≤ te → te ≤ S.length → n ≤ 30 → ParsR w Q S n → Q ≠ GM → Q ≠ 0 → MaxL w → FineG w →
    Calls Tryz.prog 12 #[.pointer (some ⟨Q, 0, none⟩), .int .i64 (fr : Int), .int .i64 (te : Int), .int .i64 d] w fun e w' => ∃ v, e = .returned v ∧ PartResR (partF S g n fr te).1 v w.heap.size w' ∧ ParsR w' Q S (partF S g n fr te).2 ∧ ButAt Q w.heap.size w w'

set_option maxRecDepth 100000 in
set_option maxHeartbeats 32000000 in
theorem rpart_step (S : List UInt8) (hS : S.length ≤ 9000) (g : Nat) (IH : RPartOk S g) : RPartOk S (g + 1) := by
    intro n fr te Q d w hg hd hft hte hn hQ hQG hQF hM hFi
    unfold RPartOk at IH
    by_cases h30 : 30 < n + 1
    · refine (rpart_fail S n fr te Q d w hn (by omega) (by omega) (Or.inl h30) hQ).mono ?_
      have e : partF S (g + 1) n fr te = (none, n + 1) := by rw [partF, if_pos h30]
      rw [e]
      rintro e w' ⟨rfl, h1, h2⟩
      exact ⟨_, rfl, rfl, h1, h2⟩
    have hQl := parsR_lt hQ
    have q0 := (two_cells hQ).1
    have q1 := (two_cells hQ).2
    have fQ := Lib.frozen_of_heap hQ
    have f1 := fQ 1
    have hfz : decide ((30 : Int) < (n : Int) + 1) = false := by rw [decide_eq_false_iff_not]; omega
    have hdz : decide ((6 : Int) < d) = false := by rw [decide_eq_false_iff_not]; omega
    have hftz : (fr : Int) ≤ (te : Int) := by omega
    have htez : (te : Int) ≤ (S.length : Int) := by omega
    have hts := text_size S
    obtain ⟨R, hR⟩ : ∃ R, partF S (g + 1) n fr te = R := ⟨_, rfl⟩
    rw [hR]
    rw [partF, if_neg h30] at hR
    simp only at hR
    obtain ⟨TX, hTX⟩ : ∃ TX, (S.drop fr).take (te - fr) = TX := ⟨_, rfl⟩
    have hpt : (⟨S.toArray⟩ : ByteArray).extract fr te = ⟨TX.toArray⟩ := by rw [← hTX]; exact text_part S fr te
    have hTl : TX.length = te - fr := by rw [← hTX, List.length_take, List.length_drop]; omega
    have hHl := splitHd_take TX
    have hHc := splitHd_cat TX
    have cS := fun W hM => rsplit_any TX W (by omega) hM
    rw [← hpt] at cS
    rw [hTX] at hR
    obtain ⟨⟨H, BD⟩, hH⟩ : ∃ H, splitHd TX = H := ⟨_, rfl⟩
    rw [hH] at cS hR hHl hHc
    simp only at cS hR hHl hHc
    have hBl : BD.length + H.length = TX.length := by have := congrArg List.length hHc; rw [List.length_append] at this; omega
    have hBs := text_size BD
    have cK := fun W hM hF => rkind_any H W (by omega) hM hF
    have hmi := multi_iff H
    have hK1 : (kindF H).1 = (kindR H).1 := rfl
    have hK2 : (kindR H).2 ≠ [] → (kindF H).2 = (kindR H).2 := by
      intro h
      have h2 : (kindR H).2 = if Lib.hasPrefix (kindF H).1 mpS then (kindF H).2 else [] := rfl
      rw [h2] at h ⊢
      split
      · rfl
      · rename_i h3; rw [if_neg h3] at h; exact absurd rfl h
    have hBNl0 := kind_len H
    have hBNl : (kindR H).2.length ≤ 1000000 := by
      by_cases h : (kindR H).2 = []
      · rw [h]; simp
      · rw [← hK2 h]; omega
    obtain ⟨X, hX⟩ : ∃ X, fr + H.length = X := ⟨_, rfl⟩
    have hXz : (te : Int) - (BD.length : Int) = (X : Int) := by omega
    have hXt : X ≤ te := by omega
    rw [hX] at hR
    obtain ⟨LN, hLN⟩ : ∃ LN, Lib.count BD [10] = LN := ⟨_, rfl⟩
    rw [hLN] at hR
    rw [Lib.count_one] at hLN
    rw [hmi, hK1] at hR
    obtain ⟨⟨TY, BN⟩, hK⟩ : ∃ K, kindR H = K := ⟨_, rfl⟩
    rw [hK] at cK hR hK2 hBNl
    simp only at cK hR hK2 hBNl
    have HLN := Lib.hid hLN
    have HR := Lib.hid hR
    have HD := Lib.hid hd
    have HK2 := Lib.hid hK2
    have HBD := Lib.hid hBl
    clear hR hK hLN hX hH hpt hTX hHc hd hmi hK1 hK2 hBNl0 hBl
    have y0 := (((ButAt.refl Q w.heap.size w).setQ 1 (.int .i64 ((n : Int) + 1))).alloc (by rw [set_size]; exact Nat.le_refl _) (.cells zeroC 25))
    have p0 := parsR_alloc (parsR_setz hQ (n + 1) ((n : Int) + 1) (by omega)) (.cells zeroC 25)
    have z0 := new_at w ⟨Q, 1, none⟩ (.int .i64 ((n : Int) + 1)) (.cells zeroC 25)
    have r0 := (two_cells p0).1
    have r1 := (two_cells p0).2
    go_enter Tryz.func12, Tryz.ntmps12
    go_wp2_with (first
      | (go_at_call 22; go_loud (with_reducible refine (cS _ (maxL_but hM hQG y0)).mono ?_; rintro e w2 ⟨rfl, h⟩; have p := parsR_below p0 h; have z := below_same h z0; have y := y0.next y0.size h; have zl := (Array.getElem?_eq_some_iff.1 z).1; have hU := World.heap_alloc_new w2 (.cells #[.string ⟨#[]⟩, .string ⟨#[]⟩, .int .i64 (X : Int), .int .i64 (te : Int), .int .i64 0, .slice none 0 0] 25); have pa := parsR_alloc p (.cells #[.string ⟨#[]⟩, .string ⟨#[]⟩, .int .i64 (X : Int), .int .i64 (te : Int), .int .i64 0, .slice none 0 0] 25); have za := alloc_at (o := .cells #[.string ⟨#[]⟩, .string ⟨#[]⟩, .int .i64 (X : Int), .int .i64 (te : Int), .int .i64 0, .slice none 0 0] 25) z; have ya := y.alloc y.size (.cells #[.string ⟨#[]⟩, .string ⟨#[]⟩, .int .i64 (X : Int), .int .i64 (te : Int), .int .i64 0, .slice none 0 0] 25))))
    have hBlz : BD.length ≤ 9000 := by have := HBD.out; omega
    have nRU : w.heap.size ≠ w2.heap.size := Nat.ne_of_lt zl
    have hUB : w.heap.size ≤ w2.heap.size := Nat.le_of_lt zl
    have nQU : Q ≠ w2.heap.size := Nat.ne_of_lt (Nat.lt_of_lt_of_le hQl hUB)
    have nQR : Q ≠ w.heap.size := Nat.ne_of_lt hQl
    clear y0 p0 z0 r0 r1 q0 q1 fQ f1 hfz hdz
    go_loopg [61] BD.length (fun g61 s61 wr => ∃ (i k : Nat), i + g61 = BD.length ∧ s61 = .int .i64 (i : Int) ∧ k ≤ i ∧ wr.heap[w2.heap.size]? = some (.cells #[.string ⟨#[]⟩, .string ⟨#[]⟩, .int .i64 (X : Int), .int .i64 (te : Int), .int .i64 (k : Int), .slice none 0 0] 25 (0, 0)) ∧ ParsR wr Q S (n + 1) ∧
      wr.heap[w.heap.size]? = some (.cells zeroC 25 (0, 0)) ∧ ButAt Q w.heap.size w wr ∧ Hid (k = (BD.take i).count 10))
    case atStart => exact ⟨0, 0, by omega, rfl, Nat.le_refl _, hU, pa, za, ya, rfl⟩
    case round =>
      obtain ⟨i, k, hk, rfl, hki, hx, p, z, y, Hk⟩ := hrel
      clear hU pa za ya
      have x4 := (six_cells hx).2.2.2.2.1
      have fx := Lib.frozen_of_heap hx
      by_cases hlt : i < BD.length
      · obtain ⟨g', rfl⟩ : ∃ g', gk = g' + 1 := ⟨gk - 1, by omega⟩
        obtain ⟨c, hc⟩ : ∃ c, BD[i]? = some c := ⟨BD[i], List.getElem?_eq_getElem hlt⟩
        have hget : ∀ h, (⟨BD.toArray⟩ : ByteArray)[i]'h = c := fun h => by
          have e : BD[i] = c := by rw [List.getElem?_eq_getElem hlt] at hc; exact Option.some.inj hc
          exact e
        have hst := count_step hc
        have hcl := c.toNat_lt
        by_cases h10 : c = 10
        · subst h10
          have HX : Hid (k + 1 = (BD.take (i + 1)).count 10) := by show _ = _; rw [hst, if_pos rfl, ← Hk.out]
          have hget2 : ∀ h, (((⟨BD.toArray⟩ : ByteArray)[i]'h).toNat : Int) = 10 := fun h => by rw [hget h]; rfl
          clear hst hget hc
          go_wp2_with fail
          go_roundg g'
          case measure => omega
          case rel => exact ⟨i + 1, k + 1, by omega, by go_num, by omega, set_four hx _, parsR_set2 p _ _ nQU, set_at z nRU, y.setCell (p := ⟨w2.heap.size, 4, none⟩) hUB _, HX.out⟩
        · have HX : Hid (k = (BD.take (i + 1)).count 10) := by show _ = _; rw [hst, if_neg h10, ← Hk.out]; rfl
          obtain ⟨C, hC⟩ : ∃ C : Int, (c.toNat : Int) = C := ⟨_, rfl⟩
          have hget2 : ∀ h, (((⟨BD.toArray⟩ : ByteArray)[i]'h).toNat : Int) = C := fun h => by rw [hget h]; exact hC
          have hCb : (C == 10) = false := by
            rw [beq_eq_false_iff_ne]
            intro h
            apply h10
            apply UInt8.toNat.inj
            show c.toNat = 10
            omega
          clear hst hget hc h10
          go_wp2_with fail
          go_roundg g'
          case measure => omega
          case rel => exact ⟨i + 1, k, by omega, by go_num, by omega, hx, p, z, y, HX.out⟩
      · have hkL : k = LN := by
          rw [Hk.out, List.take_of_length_le (by omega)]; exact HLN.out
        subst hkL
        clear Hk HLN hki
        by_cases hb : BN = []
        · subst hb
          have hR := HR.out
          have HX : Hid (((some (.mk TY [] X te k []), n + 1) : Option PT × Nat) = R) := hR
          clear HR hR
          go_wp2_with (go_at_call 23; go_loud (with_reducible refine (cK _ (maxL_but hM hQG y) (fineG_but hFi hQF y)).mono ?_; rintro e w3 ⟨rfl, h⟩; have p := parsR_below p h; have z := below_same h z; have hx := below_same h hx; have y := y.next y.size h; have x0 := (six_cells hx).1; have x1 := (six_cells hx).2.1; have fx := Lib.frozen_of_heap hx; have hx4 := set_zero_one hx (.string ⟨TY.toArray⟩) (.string ⟨#[]⟩); have k0 := (six_cells hx4).1; have k1 := (six_cells hx4).2.1; have k2 := (six_cells hx4).2.2.1; have k3 := (six_cells hx4).2.2.2.1; have k4 := (six_cells hx4).2.2.2.2.1; have k5 := (six_cells hx4).2.2.2.2.2; have z := set_at (p := ⟨w2.heap.size, 1, none⟩) (u := .string ⟨#[]⟩) (set_at (p := ⟨w2.heap.size, 0, none⟩) (u := .string ⟨TY.toArray⟩) z nRU) nRU; have fz := Lib.frozen_of_heap z; have u0 := (six_cells z).1; have u1 := (six_cells z).2.1; have u2 := (six_cells z).2.2.1; have u3 := (six_cells z).2.2.2.1; have u4 := (six_cells z).2.2.2.2.1; have u5 := (six_cells z).2.2.2.2.2; have p := parsR_set2 (parsR_set2 p ⟨w2.heap.size, 0, none⟩ (.string ⟨TY.toArray⟩) nQU) ⟨w2.heap.size, 1, none⟩ (.string ⟨#[]⟩) nQU; have y := (y.setCell (p := ⟨w2.heap.size, 0, none⟩) hUB (.string ⟨TY.toArray⟩)).setCell (p := ⟨w2.heap.size, 1, none⟩) hUB (.string ⟨#[]⟩)))
          refine bodyPost_ret (results_row_tmp (P := Tryz.prog) rfl _ _ w.heap.size _ _ _ _ rfl (set_six z _ _ _ _ _ _) Tryz.underlying25 rfl part_size) rfl ?_
          refine ⟨_, rfl, by rw [← HX.out]; exact ⟨_, rfl, .empty⟩, by rw [← HX.out]; exact six_parsR p nQR _ _ _ _ _ _, six_but y (Nat.le_refl _) _ _ _ _ _ _⟩
        · have hemp : (⟨BN.toArray⟩ : ByteArray).toList.isEmpty = false := by rw [Lib.toList_data]; simpa using hb
          have hemp2 : BN.isEmpty = false := by simpa using hb
          have hR := HR.out
          rw [HK2.out hb, hemp2] at hR
          simp only [Bool.not_false, if_true] at hR
          have hcr := cuts_rise S te BN X (te + 1) X none [] X (Nat.le_refl _) (Nat.le_refl _) hXt (fun o ho => by cases ho)
          obtain ⟨RR, hRR⟩ : ∃ RR, partsF (partF S g) (cutsF S te BN (te + 1) X none []) (n + 1) [] = RR := ⟨_, rfl⟩
          rw [hRR] at hR
          have HRR := Lib.hid hRR
          have HR2 := Lib.hid hR
          clear HR hR hRR HK2 hb hcr
          go_wp2_with (go_at_call 23; go_loud (with_reducible refine (cK _ (maxL_but hM hQG y) (fineG_but hFi hQF y)).mono ?_; rintro e w3 ⟨rfl, h⟩; have p := parsR_below p h; have z := below_same h z; have hx := below_same h hx; have y := y.next y.size h; have x0 := (six_cells hx).1; have x1 := (six_cells hx).2.1; have fx := Lib.frozen_of_heap hx; have hx4 := set_zero_one hx (.string ⟨TY.toArray⟩) (.string ⟨BN.toArray⟩); have k1 := (six_cells hx4).2.1; have k2 := (six_cells hx4).2.2.1; have z := set_at (p := ⟨w2.heap.size, 1, none⟩) (u := .string ⟨BN.toArray⟩) (set_at (p := ⟨w2.heap.size, 0, none⟩) (u := .string ⟨TY.toArray⟩) z nRU) nRU; have p := parsR_set2 (parsR_set2 p ⟨w2.heap.size, 0, none⟩ (.string ⟨TY.toArray⟩) nQU) ⟨w2.heap.size, 1, none⟩ (.string ⟨BN.toArray⟩) nQU; have y := (y.setCell (p := ⟨w2.heap.size, 0, none⟩) hUB (.string ⟨TY.toArray⟩)).setCell (p := ⟨w2.heap.size, 1, none⟩) hUB (.string ⟨BN.toArray⟩)))
          obtain ⟨w5, hw5⟩ : ∃ W : World, (w3.setCell ⟨w2.heap.size, 0, none⟩ (.string ⟨TY.toArray⟩)).setCell ⟨w2.heap.size, 1, none⟩ (.string ⟨BN.toArray⟩) = W := ⟨_, rfl⟩
          rw [hw5] at hx4 z p y
          rw [hw5]
          have y5 := y
          have z5 := z
          have p5 := p
          have hU5 := (Array.getElem?_eq_some_iff.1 hx4).1
          have hQ5 := parsR_lt p
          clear hw5 x0 x1 fx k1 k2 hx y p z cK cS h
          have lN1 : (45 :: 45 :: BN).length = BN.length + 2 := by simp
          obtain ⟨N1, hN1⟩ : ∃ N1, N1 = 45 :: 45 :: BN := ⟨_, rfl⟩
          obtain ⟨N2, hN2⟩ : ∃ N2, N2 = 45 :: 45 :: (BN ++ [45, 45]) := ⟨_, rfl⟩
          have aN1 : (⟨#[45, 45]⟩ : ByteArray) ++ ⟨BN.toArray⟩ = ⟨N1.toArray⟩ := by rw [hN1]; exact text_cat [45, 45] BN
          have aN2 : (⟨N1.toArray⟩ : ByteArray) ++ ⟨#[45, 45]⟩ = ⟨N2.toArray⟩ := by rw [hN1, hN2]; exact text_cat (45 :: 45 :: BN) [45, 45]
          have tB := text_size BN
          have tN1 := text_size N1
          have lN : N1.length ≤ 1000002 := by rw [hN1, lN1]; omega
          have hne12 : N1 ≠ N2 := by
            rw [hN1, hN2]
            intro h
            have := congrArg List.length h
            simp at this
          clear lN1
          have HN1 := Lib.hid hN1
          have HN2 := Lib.hid hN2
          clear hN1 hN2
          go_loopg [14, 15] (te + 1) (fun g14 s14 s15 wr => ∃ (f a : Nat) (op : Option Nat) (n' : Nat) (items : List (PT × Value)) (sv : Value), s15 = .int .i64 (a : Int) ∧ s14 = .int .i64 (opI op) ∧ X ≤ a ∧ a ≤ te ∧ te + 1 ≤ a + g14 ∧ te + 1 ≤ a + f ∧ (∀ o, op = some o → o ≤ a) ∧ items.length ≤ n' ∧ n' ≤ 30 ∧
            wr.heap[w2.heap.size]? = some (.cells #[.string ⟨TY.toArray⟩, .string ⟨BN.toArray⟩, .int .i64 (X : Int), .int .i64 (te : Int), .int .i64 (k : Int), sv] 25 (0, 0)) ∧ ParsR wr Q S n' ∧
            wr.ownsRow w5.heap.size 25 6 sv items.length (cellsL items) ∧ But2 Q w2.heap.size w5.heap.size w5 wr ∧
            Hid ((∀ x ∈ items, Reads wr (fun j => w5.heap.size ≤ j ∧ sv.ownBlock ≠ some j) x.2 x.1.ps) ∧ partsF (partF S g) (cutsF S te BN f a op []) n' (items.map (·.1)) = RR))
          case atStart => exact ⟨te + 1, X, none, n + 1, [], .slice none 0 0, rfl, rfl, Nat.le_refl _, hXt, by omega, by omega, (fun o ho => by cases ho), by simp, by omega, hx4, p5, World.ownsRow_nil _ _ _ _, But2.refl _ _ _ _, (by intro x hx; simp at hx), HRR.out⟩
          case round =>
            obtain ⟨f, a, op, n', items, sv, rfl, rfl, hXa, hat, hgk, hfu, hop, hil, hn', hx, p, hown, b2, HK⟩ := hrel
            obtain ⟨ao6, cap6, rfl, hao6⟩ := owns_slice' hown
            clear hao6
            have zr := (b2.block _ (Nat.lt_of_lt_of_le zl (Nat.le_of_lt hU5)) (Nat.ne_of_lt hQl).symm (Nat.ne_of_lt zl)).trans z5
            have y := b2.toBut y5 y5.size hUB
            have hMr := maxL_but hM hQG y
            have hFr := fineG_but hFi hQF y
            have r0 := (two_cells p).1
            by_cases hlt : a < te
            · obtain ⟨f', rfl⟩ : ∃ f', f = f' + 1 := ⟨f - 1, by omega⟩
              obtain ⟨g', rfl⟩ : ∃ g', gk = g' + 1 := ⟨gk - 1, by omega⟩
              have hltz : (a : Int) < (te : Int) := by omega
              have hpt1 : (⟨S.toArray⟩ : ByteArray).extract a te = ⟨((S.drop a).take (te - a)).toArray⟩ := text_part S a te
              have htl : ((S.drop a).take (te - a)).length = te - a := by rw [List.length_take, List.length_drop]; omega
              have cI := index_nl ((S.drop a).take (te - a)) wr (by omega) hMr
              have hroom := Lib.index_room ((S.drop a).take (te - a)) [13, 10]
              have hge := Lib.index_ge ((S.drop a).take (te - a)) [13, 10]
              have hleE : lineEnd S te a = if Lib.index ((S.drop a).take (te - a)) [13, 10] < 0 then te else a + (Lib.index ((S.drop a).take (te - a)) [13, 10]).toNat := rfl
              have hE1 : a ≤ lineEnd S te a := lineEnd_ge (Nat.le_of_lt hlt)
              have hE2 : lineEnd S te a ≤ te := lineEnd_le (Nat.le_of_lt hlt)
              have hngt := nextOf_gt (s := S) hlt
              have hnle : nextOf S te a ≤ te := nextOf_le
              obtain ⟨E, hE⟩ : ∃ E, lineEnd S te a = E := ⟨_, rfl⟩
              have hlo : lineOf S te a = Lib.trimRightS ((S.drop a).take (E - a)) [32, 9] := by unfold lineOf; rw [hE]
              have hno : nextOf S te a = min (E + 2) te := by unfold nextOf; rw [hE]
              rw [hE] at hleE hE1 hE2
              have hraw : ((S.drop a).take (te - a)).take (E - a) = (S.drop a).take (E - a) := by rw [List.take_take, Nat.min_eq_left (by omega)]
              obtain ⟨LW, hLW⟩ : ∃ LW, (S.drop a).take (te - a) = LW := ⟨_, rfl⟩
              rw [hLW] at hpt1 htl cI hroom hge hleE hraw
              obtain ⟨RW, hRW⟩ : ∃ RW, (S.drop a).take (E - a) = RW := ⟨_, rfl⟩
              rw [hRW] at hraw hlo
              obtain ⟨NX, hNX⟩ : ∃ NX, nextOf S te a = NX := ⟨_, rfl⟩
              rw [hNX] at hno hngt hnle
              have hstp := HK.out.2
              have HKK := Lib.hid HK.out.1
              rw [cutsF, if_pos hlt, hlo, hNX, ← HN1.out, ← HN2.out] at hstp
              obtain ⟨A, hA⟩ : ∃ A, Lib.trimRightS RW [32, 9] = A := ⟨_, rfl⟩
              rw [hA] at hstp
              have HST := Lib.hid hstp
              clear hLW hRW hNX hE hstp HK hlo
              obtain ⟨kx, hkx⟩ : ∃ kx, Lib.index LW [13, 10] = kx := ⟨_, rfl⟩
              rw [hkx] at cI hroom hge hleE
              have tLW := text_size LW
              have hRWl : RW.length ≤ 9000 := by rw [← hraw, List.length_take]; omega
              have HKC : Hid ((kx < 0 ∧ NX = te ∧ RW = LW) ∨ ∃ j : Nat, kx = (j : Int) ∧ NX = a + j + 2 ∧ RW = LW.take j ∧ j + 2 ≤ te - a) := by
                rcases Int.lt_or_le kx 0 with h0 | h0
                · rw [if_pos h0] at hleE
                  refine Or.inl ⟨h0, by rw [hno, hleE]; omega, ?_⟩
                  rw [← hraw, hleE, List.take_of_length_le (by omega)]
                · obtain ⟨j, rfl⟩ := Int.eq_ofNat_of_zero_le h0
                  rw [if_neg (by omega), Int.toNat_natCast] at hleE
                  have hr2 := hroom (by omega)
                  have h22 : ([13, 10] : List UInt8).length = 2 := rfl
                  refine Or.inr ⟨j, rfl, by rw [hno, hleE]; omega, ?_, by omega⟩
                  rw [← hraw, hleE, show a + j - a = j by omega]
              clear hkx hroom hge hleE hno hraw hE1 hE2
              have hatz : (a : Int) ≤ (te : Int) := by omega
              go_upto_if 100 with (go_at_call 24; with_reducible refine cI.mono ?_; rintro e w6 ⟨rfl, hw⟩; rw [hw]; clear hw)
              go_cut [16, 17] (fun s16 s17 wx => s16 = .int .i64 (NX : Int) ∧ s17 = .string ⟨RW.toArray⟩ ∧ wr = wx)
              case first =>
                rcases HKC.out with ⟨h0, hnx, hrw⟩ | ⟨j, hj0, hnx, hrw, hj⟩
                · have h0z : decide ((0 : Int) ≤ kx) = false := by rw [decide_eq_false_iff_not]; omega
                  have HNE := Lib.hid (And.intro hnx hrw)
                  clear hnx hrw
                  go_wp2_with fail
                  go_meet
                  exact ⟨by rw [HNE.out.1], by rw [HNE.out.2], rfl⟩
                · subst hj0
                  have hptj : (⟨LW.toArray⟩ : ByteArray).extract 0 j = ⟨(LW.take j).toArray⟩ := by rw [text_part]; simp
                  have hjl : (j : Int) ≤ (LW.length : Int) := by omega
                  have HNE := Lib.hid (And.intro hnx hrw)
                  clear hnx hrw
                  go_wp2_with fail
                  go_meet
                  exact ⟨by rw [HNE.out.1]; push_cast; rfl, by rw [HNE.out.2], rfl⟩
              case rest =>
              obtain ⟨rfl, rfl, hwc⟩ := hcut
              subst hwc
              have HAe := Lib.hid hA
              clear cI hpt1 htl HKC hA
              go_upto_block 4 with fail
              go_cut [17] (fun s17 wx => s17 = .string ⟨A.toArray⟩ ∧ wr = wx)
              case first =>
                go_wp2_with fail
                go_loopg [17] RW.length (fun g17 s17 wq => ∃ V : List UInt8, V.length = g17 ∧ s17 = .string ⟨V.toArray⟩ ∧ V.length ≤ 9000 ∧ wr = wq ∧ Hid (Lib.trimRightS V [32, 9] = A))
                case atStart => exact ⟨RW, rfl, rfl, hRWl, rfl, HAe.out⟩
                case round =>
                  obtain ⟨V, hVk, rfl, hVl, hwq, HV⟩ := hrel
                  subst hwq
                  rcases List.eq_nil_or_concat V with rfl | ⟨t, dd, hVe⟩
                  · have hres : [] = A := by rw [← HV.out]; rfl
                    have HX := Lib.hid hres
                    clear HV hres
                    go_wp2_with fail
                    go_meet
                    exact ⟨by rw [← HX.out], rfl⟩
                  · rw [List.concat_eq_append] at hVe
                    subst hVe
                    have hemp3 : (⟨(t ++ [dd]).toArray⟩ : ByteArray).toList.isEmpty = false := by rw [w_empty]; simp
                    have hemp4 : (t ++ [dd]).isEmpty = false := by simp
                    have hlen : (t ++ [dd]).length = t.length + 1 := by simp
                    have htsd := text_size (t ++ [dd])
                    rw [hlen] at htsd
                    have hget : ∀ h, (⟨(t ++ [dd]).toArray⟩ : ByteArray)[t.length]'h = dd := fun h => by
                      show (t ++ [dd])[t.length]'(by simp) = dd
                      simp
                    have hptd : (⟨(t ++ [dd]).toArray⟩ : ByteArray).extract 0 t.length = ⟨t.toArray⟩ := by rw [text_part]; simp
                    have cB := fun W => rblank_any dd _ rfl W
                    by_cases hb : blankC dd = true
                    · have HX : Hid (Lib.trimRightS t [32, 9] = A) := (trim_right_snoc t dd [32, 9] (by unfold blankC at hb; simpa using hb)).symm.trans HV.out
                      obtain ⟨g4, rfl⟩ : ∃ g4, gk = g4 + 1 := ⟨gk - 1, by omega⟩
                      rw [hb] at cB
                      clear hb HV
                      go_wp2_with (go_at_call 25; with_reducible refine (cB _).mono ?_; rintro e w1 ⟨rfl, hw⟩; rw [← hw]; clear hw)
                      go_roundg g4
                      case measure => omega
                      case rel => exact ⟨t, by omega, rfl, by omega, rfl, HX.out⟩
                    · have hbf : blankC dd = false := by simpa using hb
                      have hres : t ++ [dd] = A := by
                        rw [← HV.out]
                        refine (trimRight_id _ _ ?_).symm
                        intro x hx
                        simp at hx
                        rw [← hx]
                        unfold blankC at hbf
                        simpa using hbf
                      have HX := Lib.hid hres
                      rw [hbf] at cB
                      clear hb hbf HV hres
                      go_wp2_with (go_at_call 25; with_reducible refine (cB _).mono ?_; rintro e w1 ⟨rfl, hw⟩; rw [← hw]; clear hw)
                      go_meet
                      exact ⟨by rw [← HX.out], rfl⟩
              case rest =>
              obtain ⟨rfl, hwc⟩ := hcut
              subst hwc
              clear HAe hRWl tLW
              have x1 := (six_cells hx).2.1
              have x5 := (six_cells hx).2.2.2.2.2
              obtain ⟨lb, hlb⟩ : ∃ lb, (A == N2) = lb := ⟨_, rfl⟩
              by_cases hm : A = N1 ∨ A = N2
              · have hst0 := HST.out
                rw [if_pos hm] at hst0
                obtain ⟨REST, hREST⟩ : ∃ REST, REST = if lb then [] else cutsF S te BN f' NX (some NX) [] := ⟨_, rfl⟩
                have hst1 : partsF (partF S g) (addCut op [] a ++ REST) n' (items.map (·.1)) = RR := by
                  rw [← hst0, hREST]
                  cases lb with
                  | true =>
                    have e : A = N2 := by simpa using hlb
                    rw [if_pos (show A ≠ N1 by rw [e]; exact fun h => hne12 h.symm), if_pos rfl, List.append_nil]
                  | false =>
                    have e : A = N1 := by
                      rcases hm with h | h
                      · exact h
                      · rw [h] at hlb; simp at hlb
                    rw [if_neg (show ¬(A ≠ N1) from fun h => h e), if_neg (by simp), cuts_out S te BN f' NX (some NX) (addCut op [] a)]
                have HST1 := Lib.hid hst1
                have HRE := Lib.hid hREST
                have HM := Lib.hid hm
                clear hst0 hst1 hREST hm HST
                go_upto_region 26 with fail
                go_cut [136] (fun s136 wx => s136 = .bool true ∧ wr = wx)
                case first =>
                  cases lb with
                  | true =>
                    go_wp2_with fail
                    go_meet
                    exact ⟨rfl, rfl⟩
                  | false =>
                    have hb1 : (A == N1) = true := by
                      rcases HM.out with h | h
                      · simp [h]
                      · rw [h] at hlb; simp at hlb
                    go_wp2_with fail
                    go_meet
                    exact ⟨rfl, rfl⟩
                case rest =>
                obtain ⟨rfl, hwc⟩ := hcut
                subst hwc
                go_upto_if 138 with fail
                go_cut [] (fun wx => ∃ (wz : World) (n'' : Nat) (items' : List (PT × Value)) (sv' : Value), items'.length ≤ n'' ∧ n'' ≤ 30 ∧
                  wx.heap[w2.heap.size]? = some (.cells #[.string ⟨TY.toArray⟩, .string ⟨BN.toArray⟩, .int .i64 (X : Int), .int .i64 (te : Int), .int .i64 (k : Int), sv'] 25 (0, 0)) ∧ ParsR wx Q S n'' ∧
                  wx.ownsRow w5.heap.size 25 6 sv' items'.length (cellsL items') ∧ But2 Q w2.heap.size w5.heap.size w5 wx ∧
                  Hid ((∀ x ∈ items', Reads wx (fun j => w5.heap.size ≤ j ∧ sv'.ownBlock ≠ some j) x.2 x.1.ps) ∧ partsF (partF S g) REST n'' (items'.map (·.1)) = RR) ∧ wz = wx)
                case first =>
                  cases op with
                  | none =>
                    have hopI : opI none = -1 := rfl
                    go_wp2_with fail
                    go_meet
                    exact ⟨_, n', items, _, hil, hn', hx, p, hown, b2, ⟨HKK.out, HST1.out⟩, rfl⟩
                  | some o =>
                    have hoa := hop o rfl
                    have hst : partsF (partF S g) ((o, max o (a - 2)) :: REST) n' (items.map (·.1)) = RR := HST1.out
                    rw [partsF] at hst
                    have hopI : opI (some o) = (o : Int) := rfl
                    have hoz : (0 : Int) ≤ (o : Int) := by omega
                    obtain ⟨M, hM2⟩ : ∃ M, max o (a - 2) = M := ⟨_, rfl⟩
                    have hoM : o ≤ M := by omega
                    have hMt : M ≤ te := by omega
                    have hMc : ((a : Int) - 2 < (o : Int) ∧ M = o) ∨ (¬((a : Int) - 2 < (o : Int)) ∧ (a : Int) - 2 = (M : Int)) := by omega
                    rw [hM2] at hst
                    simp only at hst
                    have HMC := Lib.hid hMc
                    clear HST1 hM2 hMc
                    go_upto_if 143 with fail
                    go_cut [20] (fun s20 wx => s20 = .int .i64 (M : Int) ∧ wr = wx)
                    case first =>
                      rcases HMC.out with ⟨h1, h2⟩ | ⟨h1, h2⟩
                      · subst h2
                        go_wp2_with fail
                        go_meet
                        exact ⟨rfl, rfl⟩
                      · go_wp2_with fail
                        go_meet
                        exact ⟨by rw [← h2], rfl⟩
                    case rest =>
                    obtain ⟨rfl, hwc⟩ := hcut
                    subst hwc
                    clear HMC hoz
                    have nRQ : w.heap.size ≠ Q := nQR.symm
                    have nUQ : w2.heap.size ≠ Q := nQU.symm
                    have cP := fun W hp hm hf => IH n' o M Q (d + 1) W (by omega) (by have := HD.out; omega) hoM (by omega) hn' hp hQG hQF hm hf
                    have hle := fun q m h => part_le S g n' o M hoM (by omega) hn' q m h
                    have hgd := (part_good S g n' o M hoM (by omega)).1
                    have hDz := HD.out
                    have hd0 : 0 ≤ d := by omega
                    have hd6 : d ≤ 6 := by omega
                    clear hDz
                    have pah : wr.heap[Q]? = some (.cells #[.string ⟨S.toArray⟩, .int .i64 (n' : Int)] 41 (0, 0)) := p
                    have tne : 41 ≠ 25 := by decide
                    have zlt := (Array.getElem?_eq_some_iff.1 zr).1
                    have ult := (Array.getElem?_eq_some_iff.1 hx).1
                    have HIL := Lib.hid hil
                    have HKS := HKK
                    clear hil
                    cases hpr : partF S g n' o M with
                    | mk r n2 =>
                      rw [hpr] at cP hle hgd hst
                      cases r with
                      | none =>
                        have hstn : RR = (none, n2) := hst.symm
                        have hR3 := HR2.out
                        rw [hstn] at hR3
                        have HX : Hid (((none, n2) : Option PT × Nat) = R) := hR3
                        have cPn : ∀ W, ParsR W Q S n' → MaxL W → FineG W → Calls Tryz.prog 12 #[.pointer (some ⟨Q, 0, none⟩), .int .i64 (o : Int), .int .i64 (M : Int), .int .i64 (d + 1)] W fun e w' => e = .returned (.tuple #[.agg zeroC, .bool false]) ∧ ParsR w' Q S n2 ∧ ButAt Q W.heap.size W w' := fun W a b c => by
                          refine (cP W a b c).mono ?_
                          rintro e w' ⟨v, rfl, h1, h2, h3⟩
                          have h1' : v = .tuple #[.agg zeroC, .bool false] := h1
                          exact ⟨by rw [h1'], h2, h3⟩
                        clear hst hstn hR3 hle hpr cP hgd IH
                        go_wp2_with (go_at_call 12; with_reducible refine (cPn _ p hMr hFr).mono ?_; rintro e w6 ⟨rfl, p6, h6⟩; have z6 := (h6.block _ zlt nRQ).trans zr; have z7 := alloc_at (o := .cells zeroC 25) z6; have u0 := (six_cells z7).1; have u1 := (six_cells z7).2.1; have u2 := (six_cells z7).2.2.1; have u3 := (six_cells z7).2.2.2.1; have u4 := (six_cells z7).2.2.2.2.1; have u5 := (six_cells z7).2.2.2.2.2; have fz := Lib.frozen_of_heap z7)
                        refine bodyPost_ret (results_row_tmp (P := Tryz.prog) rfl _ _ w.heap.size _ _ _ _ rfl (set_six z7 _ _ _ _ _ _) Tryz.underlying25 rfl part_size) rfl ?_
                        refine ⟨_, rfl, by rw [← HX.out]; rfl, by rw [← HX.out]; exact six_parsR (parsR_alloc p6 _) nQR _ _ _ _ _ _, six_but ((y.trans (h6.mono y.size)).alloc (Nat.le_trans y.size h6.size) _) (Nat.le_refl _) _ _ _ _ _ _⟩
                      | some q =>
                        have HS : Hid (partsF (partF S g) (REST) n2 ((items ++ [(q, Value.nilIface)]).map (·.1)) = RR) := by
                          have h2 : partsF (partF S g) (REST) n2 (items.map (·.1) ++ [q]) = RR := hst
                          show _ = _
                          rw [← h2]; simp
                        have hn2 := hle q n2 rfl
                        have hgd2 : n' < n2 := hgd
                        have cPs : ∀ W, ParsR W Q S n' → MaxL W → FineG W → Calls Tryz.prog 12 #[.pointer (some ⟨Q, 0, none⟩), .int .i64 (o : Int), .int .i64 (M : Int), .int .i64 (d + 1)] W fun e w' => ∃ aq cq, e = .returned (.tuple #[.agg #[.string ⟨q.ty.toArray⟩, .string ⟨q.bd.toArray⟩, .int .i64 (q.fr : Int), .int .i64 (q.to : Int), .int .i64 (q.ln : Int), .slice aq q.ps.length cq], .bool true]) ∧ Reads w' (fun j => W.heap.size ≤ j) (.slice aq q.ps.length cq) q.ps ∧ ParsR w' Q S n2 ∧ ButAt Q W.heap.size W w' := fun W a b c => by
                          refine (cP W a b c).mono ?_
                          rintro e w' ⟨v, rfl, ⟨pv, h1, h2⟩, h3, h4⟩
                          obtain ⟨aq, cq, rfl⟩ := reads_slice h2
                          exact ⟨aq, cq, by rw [h1], h2, h3, h4⟩
                        clear hst hle hpr cP hgd IH
                        go_wp2_with (first
                          | (go_at_call 12; with_reducible refine (cPs _ p hMr hFr).mono ?_; rintro e w6 ⟨aq, cq, rfl, hrd, p6, h6⟩; have x6 := (h6.block _ ult nUQ).trans hx; have x7 := alloc_at (o := .cells #[.string ⟨q.ty.toArray⟩, .string ⟨q.bd.toArray⟩, .int .i64 (q.fr : Int), .int .i64 (q.to : Int), .int .i64 (q.ln : Int), .slice aq q.ps.length cq] 25) x6; have x75 := (six_cells x7).2.2.2.2.2; have o6 := owns_but hown h6 pah tne; have o7 := o6.alloc (.cells #[.string ⟨q.ty.toArray⟩, .string ⟨q.bd.toArray⟩, .int .i64 (q.fr : Int), .int .i64 (q.to : Int), .int .i64 (q.ln : Int), .slice aq q.ps.length cq] 25); have hy0 := World.heap_alloc_new w6 (.cells #[.string ⟨q.ty.toArray⟩, .string ⟨q.bd.toArray⟩, .int .i64 (q.fr : Int), .int .i64 (q.to : Int), .int .i64 (q.ln : Int), .slice aq q.ps.length cq] 25); have v0 := (six_cells hy0).1; have v1 := (six_cells hy0).2.1; have v2 := (six_cells hy0).2.2.1; have v3 := (six_cells hy0).2.2.2.1; have v4 := (six_cells hy0).2.2.2.2.1; have v5 := (six_cells hy0).2.2.2.2.2)
                          | (at_builtin; go_must (refine wpList_app6 rfl _ _ 23 rfl 25 Tryz.underlying23 part_info rfl w5.heap.size (.slice ao6 items.length cap6) _ _ _ rfl o7 _ _ _ _ _ _ _ rfl ?hN ?h1 ?c3 (by decide) ?c5 ?_)))
                        case hN => rw [alloc_size]
                        case h1 => exact kids_six (w := w) q _ rfl
                        case c3 => have := HIL.out; omega
                        case c5 => exact Nat.le_trans b2.size (Nat.le_trans h6.size (by rw [alloc_size]; exact Nat.le_succ _))
                        intro g2 cap2 w8 own8 hg8 hat8
                        have hUw6 := (Array.getElem?_eq_some_iff.1 x6).1
                        have hQl6 := parsR_lt p6
                        have x8 := (hg8.block w2.heap.size (by rw [alloc_size, alloc_size]; omega) (fun e => by have := (o7.lt _ e.symm).1; omega)).trans (alloc_at x7)
                        have p8 : ParsR w8 Q S n2 := (hg8.block Q (by rw [alloc_size, alloc_size]; omega) (fun e => by have := (o7.lt _ e.symm).1; omega)).trans (parsR_alloc (parsR_alloc p6 (.cells #[.string ⟨q.ty.toArray⟩, .string ⟨q.bd.toArray⟩, .int .i64 (q.fr : Int), .int .i64 (q.to : Int), .int .i64 (q.ln : Int), .slice aq q.ps.length cq] 25)) (.cells #[.string ⟨q.ty.toArray⟩, .string ⟨q.bd.toArray⟩, .int .i64 (q.fr : Int), .int .i64 (q.to : Int), .int .i64 (q.ln : Int), .slice aq q.ps.length cq] 25))
                        have h67 := (Below.refl w6.heap.size w6).alloc (Nat.le_refl _) (.cells #[.string ⟨q.ty.toArray⟩, .string ⟨q.bd.toArray⟩, .int .i64 (q.fr : Int), .int .i64 (q.to : Int), .int .i64 (q.ln : Int), .slice aq q.ps.length cq] 25)
                        have hk9 := kids_stepR (cap2 := cap2) (u := .slice (some ⟨g2, 0, none⟩) (items.length + 1) cap2) hQ5 hU5 b2.size hown.lt h6 h67 hg8 (by rw [alloc_size]; exact hat8) HKS.out hrd
                        have hs5 := b2.size
                        have b9 := (((b2.but (h6.mono hs5)).but (((ButAt.refl Q w5.heap.size w6).alloc (Nat.le_trans hs5 h6.size) (.cells #[.string ⟨q.ty.toArray⟩, .string ⟨q.bd.toArray⟩, .int .i64 (q.fr : Int), .int .i64 (q.to : Int), .int .i64 (q.ln : Int), .slice aq q.ps.length cq] 25)).alloc (by rw [alloc_size]; exact Nat.le_trans (Nat.le_trans hs5 h6.size) (Nat.le_succ _)) (.cells #[.string ⟨q.ty.toArray⟩, .string ⟨q.bd.toArray⟩, .int .i64 (q.fr : Int), .int .i64 (q.to : Int), .int .i64 (q.ln : Int), .slice aq q.ps.length cq] 25))).grown hg8 (by rw [alloc_size, alloc_size]; exact Nat.le_trans (Nat.le_trans hs5 h6.size) (Nat.le_trans (Nat.le_succ _) (Nat.le_succ _))) (fun k e => (o7.lt k e).1)).setU 5 (.slice (some ⟨g2, 0, none⟩) (items.length + 1) cap2)
                        have own9 := ownsRow_setCell_below (a := ⟨w2.heap.size, 5, none⟩) own8 hU5 (.slice (some ⟨g2, 0, none⟩) (items.length + 1) cap2)
                        have x9 := set_five x8 (.slice (some ⟨g2, 0, none⟩) (items.length + 1) cap2)
                        have p9 := parsR_set2 p8 ⟨w2.heap.size, 5, none⟩ (.slice (some ⟨g2, 0, none⟩) (items.length + 1) cap2) nQU
                        have c85 := (six_cells x8).2.2.2.2.2
                        have f8 := Lib.frozen_of_heap x8 5
                        have hlen : (items ++ [(q, Value.slice aq q.ps.length cq)]).length = items.length + 1 := by simp
                        have own10 : (w8.setCell ⟨w2.heap.size, 5, none⟩ (.slice (some ⟨g2, 0, none⟩) (items.length + 1) cap2)).ownsRow w5.heap.size 25 6 (.slice (some ⟨g2, 0, none⟩) (items.length + 1) cap2) (items ++ [(q, Value.slice aq q.ps.length cq)]).length (cellsL (items ++ [(q, Value.slice aq q.ps.length cq)])) := by
                          rw [hlen, ← cellsL_snoc]; exact own9
                        have HS2 : Hid (partsF (partF S g) (REST) n2 ((items ++ [(q, Value.slice aq q.ps.length cq)]).map (·.1)) = RR) := by
                          have := HS.out
                          show _ = _
                          simpa using this
                        have hil9 : (items ++ [(q, Value.slice aq q.ps.length cq)]).length ≤ n2 := by rw [hlen]; have := HIL.out; omega
                        have HG := Lib.hid (And.intro hk9 (And.intro b9 (And.intro own10 (And.intro x9 (And.intro p9 hil9)))))
                        clear hk9 b9 own9 own10 x9 p9 hil9 hlen HS
                        go_wp2_with fail
                        go_meet
                        exact ⟨_, n2, items ++ [(q, Value.slice aq q.ps.length cq)], _, HG.out.2.2.2.2.2, hn2, HG.out.2.2.2.1, HG.out.2.2.2.2.1, HG.out.2.2.1, HG.out.2.1, ⟨HG.out.1, HS2.out⟩, rfl⟩
                case rest =>
                obtain ⟨wz, n3, items3, sv3, hil3, hn3, hx3, p3, hown3, b3, HK3, hwz⟩ := hcut
                subst hwz
                obtain ⟨ao7, cap7, rfl, hao7⟩ := owns_slice' hown3
                clear hao7 hx p hown b2 HKK hil hn' x1 x5 zr y hMr hFr r0 HM
                have zr3 := (b3.block _ (Nat.lt_of_lt_of_le zl (Nat.le_of_lt hU5)) (Nat.ne_of_lt hQl).symm (Nat.ne_of_lt zl)).trans z5
                have y3 := b3.toBut y5 y5.size hUB
                have hREST := HRE.out
                cases lb with
                | true =>
                  have hR0 : REST = [] := by rw [hREST]; rfl
                  subst hR0
                  clear hREST HRE HST1
                  have hK2 := HK3.out.2
                  rw [partsF] at hK2
                  have hR3 := HR2.out
                  rw [← hK2] at hR3
                  have HX : Hid (((some (.mk TY BN X te k (items3.map (·.1))), n3) : Option PT × Nat) = R) := hR3
                  have HKS3 := Lib.hid HK3.out.1
                  have HIL3 := Lib.hid hil3
                  have x0 := (six_cells hx3).1
                  have x1 := (six_cells hx3).2.1
                  have x2 := (six_cells hx3).2.2.1
                  have x3 := (six_cells hx3).2.2.2.1
                  have x4 := (six_cells hx3).2.2.2.2.1
                  have x5 := (six_cells hx3).2.2.2.2.2
                  have fx := Lib.frozen_of_heap hx3
                  have u0 := (six_cells zr3).1
                  have u1 := (six_cells zr3).2.1
                  have u2 := (six_cells zr3).2.2.1
                  have u3 := (six_cells zr3).2.2.2.1
                  have u4 := (six_cells zr3).2.2.2.2.1
                  have u5 := (six_cells zr3).2.2.2.2.2
                  have fz := Lib.frozen_of_heap zr3
                  clear hR3 hK2 HK3 hil3 IH
                  go_wp2_with fail
                  refine bodyPost_ret (results_row_tmp (P := Tryz.prog) rfl _ _ w.heap.size _ _ _ _ rfl (set_six zr3 _ _ _ _ _ _) Tryz.underlying25 rfl part_size) rfl ?_
                  refine ⟨_, rfl, ?_, by rw [← HX.out]; exact six_parsR p3 nQR _ _ _ _ _ _, six_but y3 (Nat.le_refl _) _ _ _ _ _ _⟩
                  rw [← HX.out]
                  refine ⟨_, rfl, ?_⟩
                  have hrd := reads_of_owns (ok := fun j => w5.heap.size ≤ j) hown3 (fun g h => (hown3.lt g h).1) (fun x hx => reads_keep (HKS3.out x hx) (Nat.le_refl _) (fun _ _ _ => rfl) (fun j h _ => h.1))
                  refine reads_keep hrd (by rw [six_size]; exact Nat.le_refl _) (fun j hj _ => six_heap wz _ _ _ _ _ _ j ?_) (fun j hj _ => Nat.le_trans y5.size hj)
                  have h1 := y5.size
                  have hj2 : w5.heap.size ≤ j := hj
                  omega
                | false =>
                  have hR0 : REST = cutsF S te BN f' NX (some NX) [] := by rw [hREST]; rfl
                  subst hR0
                  clear hREST HRE HST1 IH
                  have hgt2 : te + 1 ≤ NX + g' := by omega
                  have hfu2 : te + 1 ≤ NX + f' := by omega
                  go_wp2_with fail
                  go_roundg g'
                  case measure => omega
                  case rel => exact ⟨f', NX, some NX, n3, items3, _, rfl, rfl, by omega, hnle, hgt2, hfu2, (fun o ho => by cases ho; exact Nat.le_refl _), hil3, hn3, hx3, p3, hown3, b3, HK3.out⟩
              · have hstL := HST.out
                rw [if_neg hm] at hstL
                have HL := Lib.hid hstL
                have hb1 : (A == N1) = false := by
                  cases h : A == N1
                  · rfl
                  · exact absurd (Or.inl (by simpa using h)) hm
                have hb2 : lb = false := by
                  rw [← hlb]
                  cases h : A == N2
                  · rfl
                  · exact absurd (Or.inr (by simpa using h)) hm
                subst hb2
                have hgt2 : te + 1 ≤ NX + g' := by omega
                have hfu2 : te + 1 ≤ NX + f' := by omega
                have hop2 : ∀ o, op = some o → o ≤ NX := fun o ho => Nat.le_trans (hop o ho) (Nat.le_of_lt hngt)
                clear hstL HST hm IH
                go_wp2_with fail
                go_roundg g'
                case measure => omega
                case rel => exact ⟨f', NX, op, n', items, _, rfl, rfl, by omega, hnle, hgt2, hfu2, hop2, hil, hn', hx, p, hown, b2, HKK.out, HL.out⟩
            · obtain ⟨f', rfl⟩ : ∃ f', f = f' + 1 := ⟨f - 1, by omega⟩
              have hstp := HK.out.2
              have HKK := Lib.hid HK.out.1
              rw [cutsF, if_neg hlt] at hstp
              have HST := Lib.hid hstp
              have hae : te = a := by omega
              subst hae
              have x1 := (six_cells hx).2.1
              have x5 := (six_cells hx).2.2.2.2.2
              clear hstp HK
              go_upto_if 168 with fail
              go_cut [] (fun wx => ∃ (wz : World) (n'' : Nat) (items' : List (PT × Value)) (sv' : Value), items'.length ≤ n'' ∧ n'' ≤ 30 ∧
                wx.heap[w2.heap.size]? = some (.cells #[.string ⟨TY.toArray⟩, .string ⟨BN.toArray⟩, .int .i64 (X : Int), .int .i64 (te : Int), .int .i64 (k : Int), sv'] 25 (0, 0)) ∧ ParsR wx Q S n'' ∧
                wx.ownsRow w5.heap.size 25 6 sv' items'.length (cellsL items') ∧ But2 Q w2.heap.size w5.heap.size w5 wx ∧
                Hid ((∀ x ∈ items', Reads wx (fun j => w5.heap.size ≤ j ∧ sv'.ownBlock ≠ some j) x.2 x.1.ps) ∧ partsF (partF S g) [] n'' (items'.map (·.1)) = RR) ∧ wz = wx)
              case first =>
                cases op with
                | none =>
                  have hopI : opI none = -1 := rfl
                  go_wp2_with fail
                  go_meet
                  exact ⟨_, n', items, _, hil, hn', hx, p, hown, b2, ⟨HKK.out, HST.out⟩, rfl⟩
                | some o =>
                  have hoa := hop o rfl
                  have hst : partsF (partF S g) ((o, te) :: []) n' (items.map (·.1)) = RR := HST.out
                  rw [partsF] at hst
                  have hopI : opI (some o) = (o : Int) := rfl
                  have hoM : o ≤ te := by omega
                  simp only at hst
                  clear HST
                  have nRQ : w.heap.size ≠ Q := nQR.symm
                  have nUQ : w2.heap.size ≠ Q := nQU.symm
                  have cP := fun W hp hm hf => IH n' o te Q (d + 1) W (by omega) (by have := HD.out; omega) hoM (by omega) hn' hp hQG hQF hm hf
                  have hle := fun q m h => part_le S g n' o te hoM (by omega) hn' q m h
                  have hgd := (part_good S g n' o te hoM (by omega)).1
                  have hDz := HD.out
                  have hd0 : 0 ≤ d := by omega
                  have hd6 : d ≤ 6 := by omega
                  clear hDz
                  have pah : wr.heap[Q]? = some (.cells #[.string ⟨S.toArray⟩, .int .i64 (n' : Int)] 41 (0, 0)) := p
                  have tne : 41 ≠ 25 := by decide
                  have zlt := (Array.getElem?_eq_some_iff.1 zr).1
                  have ult := (Array.getElem?_eq_some_iff.1 hx).1
                  have HIL := Lib.hid hil
                  have HKS := HKK
                  clear hil
                  cases hpr : partF S g n' o te with
                  | mk r n2 =>
                    rw [hpr] at cP hle hgd hst
                    cases r with
                    | none =>
                      have hstn : RR = (none, n2) := hst.symm
                      have hR3 := HR2.out
                      rw [hstn] at hR3
                      have HX : Hid (((none, n2) : Option PT × Nat) = R) := hR3
                      have cPn : ∀ W, ParsR W Q S n' → MaxL W → FineG W → Calls Tryz.prog 12 #[.pointer (some ⟨Q, 0, none⟩), .int .i64 (o : Int), .int .i64 (te : Int), .int .i64 (d + 1)] W fun e w' => e = .returned (.tuple #[.agg zeroC, .bool false]) ∧ ParsR w' Q S n2 ∧ ButAt Q W.heap.size W w' := fun W a b c => by
                        refine (cP W a b c).mono ?_
                        rintro e w' ⟨v, rfl, h1, h2, h3⟩
                        have h1' : v = .tuple #[.agg zeroC, .bool false] := h1
                        exact ⟨by rw [h1'], h2, h3⟩
                      clear hst hstn hR3 hle hpr cP hgd IH
                      go_wp2_with (go_at_call 12; with_reducible refine (cPn _ p hMr hFr).mono ?_; rintro e w6 ⟨rfl, p6, h6⟩; have z6 := (h6.block _ zlt nRQ).trans zr; have z7 := alloc_at (o := .cells zeroC 25) z6; have u0 := (six_cells z7).1; have u1 := (six_cells z7).2.1; have u2 := (six_cells z7).2.2.1; have u3 := (six_cells z7).2.2.2.1; have u4 := (six_cells z7).2.2.2.2.1; have u5 := (six_cells z7).2.2.2.2.2; have fz := Lib.frozen_of_heap z7)
                      refine bodyPost_ret (results_row_tmp (P := Tryz.prog) rfl _ _ w.heap.size _ _ _ _ rfl (set_six z7 _ _ _ _ _ _) Tryz.underlying25 rfl part_size) rfl ?_
                      refine ⟨_, rfl, by rw [← HX.out]; rfl, by rw [← HX.out]; exact six_parsR (parsR_alloc p6 _) nQR _ _ _ _ _ _, six_but ((y.trans (h6.mono y.size)).alloc (Nat.le_trans y.size h6.size) _) (Nat.le_refl _) _ _ _ _ _ _⟩
                    | some q =>
                      have HS : Hid (partsF (partF S g) ([]) n2 ((items ++ [(q, Value.nilIface)]).map (·.1)) = RR) := by
                        have h2 : partsF (partF S g) ([]) n2 (items.map (·.1) ++ [q]) = RR := hst
                        show _ = _
                        rw [← h2]; simp
                      have hn2 := hle q n2 rfl
                      have hgd2 : n' < n2 := hgd
                      have cPs : ∀ W, ParsR W Q S n' → MaxL W → FineG W → Calls Tryz.prog 12 #[.pointer (some ⟨Q, 0, none⟩), .int .i64 (o : Int), .int .i64 (te : Int), .int .i64 (d + 1)] W fun e w' => ∃ aq cq, e = .returned (.tuple #[.agg #[.string ⟨q.ty.toArray⟩, .string ⟨q.bd.toArray⟩, .int .i64 (q.fr : Int), .int .i64 (q.to : Int), .int .i64 (q.ln : Int), .slice aq q.ps.length cq], .bool true]) ∧ Reads w' (fun j => W.heap.size ≤ j) (.slice aq q.ps.length cq) q.ps ∧ ParsR w' Q S n2 ∧ ButAt Q W.heap.size W w' := fun W a b c => by
                        refine (cP W a b c).mono ?_
                        rintro e w' ⟨v, rfl, ⟨pv, h1, h2⟩, h3, h4⟩
                        obtain ⟨aq, cq, rfl⟩ := reads_slice h2
                        exact ⟨aq, cq, by rw [h1], h2, h3, h4⟩
                      clear hst hle hpr cP hgd IH
                      go_wp2_with (first
                        | (go_at_call 12; with_reducible refine (cPs _ p hMr hFr).mono ?_; rintro e w6 ⟨aq, cq, rfl, hrd, p6, h6⟩; have x6 := (h6.block _ ult nUQ).trans hx; have x7 := alloc_at (o := .cells #[.string ⟨q.ty.toArray⟩, .string ⟨q.bd.toArray⟩, .int .i64 (q.fr : Int), .int .i64 (q.to : Int), .int .i64 (q.ln : Int), .slice aq q.ps.length cq] 25) x6; have x75 := (six_cells x7).2.2.2.2.2; have o6 := owns_but hown h6 pah tne; have o7 := o6.alloc (.cells #[.string ⟨q.ty.toArray⟩, .string ⟨q.bd.toArray⟩, .int .i64 (q.fr : Int), .int .i64 (q.to : Int), .int .i64 (q.ln : Int), .slice aq q.ps.length cq] 25); have hy0 := World.heap_alloc_new w6 (.cells #[.string ⟨q.ty.toArray⟩, .string ⟨q.bd.toArray⟩, .int .i64 (q.fr : Int), .int .i64 (q.to : Int), .int .i64 (q.ln : Int), .slice aq q.ps.length cq] 25); have v0 := (six_cells hy0).1; have v1 := (six_cells hy0).2.1; have v2 := (six_cells hy0).2.2.1; have v3 := (six_cells hy0).2.2.2.1; have v4 := (six_cells hy0).2.2.2.2.1; have v5 := (six_cells hy0).2.2.2.2.2)
                        | (at_builtin; go_must (refine wpList_app6 rfl _ _ 23 rfl 25 Tryz.underlying23 part_info rfl w5.heap.size (.slice ao6 items.length cap6) _ _ _ rfl o7 _ _ _ _ _ _ _ rfl ?hN ?h1 ?c3 (by decide) ?c5 ?_)))
                      case hN => rw [alloc_size]
                      case h1 => exact kids_six (w := w) q _ rfl
                      case c3 => have := HIL.out; omega
                      case c5 => exact Nat.le_trans b2.size (Nat.le_trans h6.size (by rw [alloc_size]; exact Nat.le_succ _))
                      intro g2 cap2 w8 own8 hg8 hat8
                      have hUw6 := (Array.getElem?_eq_some_iff.1 x6).1
                      have hQl6 := parsR_lt p6
                      have x8 := (hg8.block w2.heap.size (by rw [alloc_size, alloc_size]; omega) (fun e => by have := (o7.lt _ e.symm).1; omega)).trans (alloc_at x7)
                      have p8 : ParsR w8 Q S n2 := (hg8.block Q (by rw [alloc_size, alloc_size]; omega) (fun e => by have := (o7.lt _ e.symm).1; omega)).trans (parsR_alloc (parsR_alloc p6 (.cells #[.string ⟨q.ty.toArray⟩, .string ⟨q.bd.toArray⟩, .int .i64 (q.fr : Int), .int .i64 (q.to : Int), .int .i64 (q.ln : Int), .slice aq q.ps.length cq] 25)) (.cells #[.string ⟨q.ty.toArray⟩, .string ⟨q.bd.toArray⟩, .int .i64 (q.fr : Int), .int .i64 (q.to : Int), .int .i64 (q.ln : Int), .slice aq q.ps.length cq] 25))
                      have h67 := (Below.refl w6.heap.size w6).alloc (Nat.le_refl _) (.cells #[.string ⟨q.ty.toArray⟩, .string ⟨q.bd.toArray⟩, .int .i64 (q.fr : Int), .int .i64 (q.to : Int), .int .i64 (q.ln : Int), .slice aq q.ps.length cq] 25)
                      have hk9 := kids_stepR (cap2 := cap2) (u := .slice (some ⟨g2, 0, none⟩) (items.length + 1) cap2) hQ5 hU5 b2.size hown.lt h6 h67 hg8 (by rw [alloc_size]; exact hat8) HKS.out hrd
                      have hs5 := b2.size
                      have b9 := (((b2.but (h6.mono hs5)).but (((ButAt.refl Q w5.heap.size w6).alloc (Nat.le_trans hs5 h6.size) (.cells #[.string ⟨q.ty.toArray⟩, .string ⟨q.bd.toArray⟩, .int .i64 (q.fr : Int), .int .i64 (q.to : Int), .int .i64 (q.ln : Int), .slice aq q.ps.length cq] 25)).alloc (by rw [alloc_size]; exact Nat.le_trans (Nat.le_trans hs5 h6.size) (Nat.le_succ _)) (.cells #[.string ⟨q.ty.toArray⟩, .string ⟨q.bd.toArray⟩, .int .i64 (q.fr : Int), .int .i64 (q.to : Int), .int .i64 (q.ln : Int), .slice aq q.ps.length cq] 25))).grown hg8 (by rw [alloc_size, alloc_size]; exact Nat.le_trans (Nat.le_trans hs5 h6.size) (Nat.le_trans (Nat.le_succ _) (Nat.le_succ _))) (fun k e => (o7.lt k e).1)).setU 5 (.slice (some ⟨g2, 0, none⟩) (items.length + 1) cap2)
                      have own9 := ownsRow_setCell_below (a := ⟨w2.heap.size, 5, none⟩) own8 hU5 (.slice (some ⟨g2, 0, none⟩) (items.length + 1) cap2)
                      have x9 := set_five x8 (.slice (some ⟨g2, 0, none⟩) (items.length + 1) cap2)
                      have p9 := parsR_set2 p8 ⟨w2.heap.size, 5, none⟩ (.slice (some ⟨g2, 0, none⟩) (items.length + 1) cap2) nQU
                      have c85 := (six_cells x8).2.2.2.2.2
                      have f8 := Lib.frozen_of_heap x8 5
                      have hlen : (items ++ [(q, Value.slice aq q.ps.length cq)]).length = items.length + 1 := by simp
                      have own10 : (w8.setCell ⟨w2.heap.size, 5, none⟩ (.slice (some ⟨g2, 0, none⟩) (items.length + 1) cap2)).ownsRow w5.heap.size 25 6 (.slice (some ⟨g2, 0, none⟩) (items.length + 1) cap2) (items ++ [(q, Value.slice aq q.ps.length cq)]).length (cellsL (items ++ [(q, Value.slice aq q.ps.length cq)])) := by
                        rw [hlen, ← cellsL_snoc]; exact own9
                      have HS2 : Hid (partsF (partF S g) ([]) n2 ((items ++ [(q, Value.slice aq q.ps.length cq)]).map (·.1)) = RR) := by
                        have := HS.out
                        show _ = _
                        simpa using this
                      have hil9 : (items ++ [(q, Value.slice aq q.ps.length cq)]).length ≤ n2 := by rw [hlen]; have := HIL.out; omega
                      have HG := Lib.hid (And.intro hk9 (And.intro b9 (And.intro own10 (And.intro x9 (And.intro p9 hil9)))))
                      clear hk9 b9 own9 own10 x9 p9 hil9 hlen HS
                      go_wp2_with fail
                      go_meet
                      exact ⟨_, n2, items ++ [(q, Value.slice aq q.ps.length cq)], _, HG.out.2.2.2.2.2, hn2, HG.out.2.2.2.1, HG.out.2.2.2.2.1, HG.out.2.2.1, HG.out.2.1, ⟨HG.out.1, HS2.out⟩, rfl⟩
              case rest =>
              obtain ⟨wz, n3, items3, sv3, hil3, hn3, hx3, p3, hown3, b3, HK3, hwz⟩ := hcut
              subst hwz
              obtain ⟨ao7, cap7, rfl, hao7⟩ := owns_slice' hown3
              clear hao7 hx p hown b2 HKK hil hn' x1 x5 zr y hMr hFr r0
              have zr3 := (b3.block _ (Nat.lt_of_lt_of_le zl (Nat.le_of_lt hU5)) (Nat.ne_of_lt hQl).symm (Nat.ne_of_lt zl)).trans z5
              have y3 := b3.toBut y5 y5.size hUB
              have hK2 := HK3.out.2
              rw [partsF] at hK2
              have hR3 := HR2.out
              rw [← hK2] at hR3
              have HX : Hid (((some (.mk TY BN X te k (items3.map (·.1))), n3) : Option PT × Nat) = R) := hR3
              have HKS3 := Lib.hid HK3.out.1
              have HIL3 := Lib.hid hil3
              have x0 := (six_cells hx3).1
              have x1 := (six_cells hx3).2.1
              have x2 := (six_cells hx3).2.2.1
              have x3 := (six_cells hx3).2.2.2.1
              have x4 := (six_cells hx3).2.2.2.2.1
              have x5 := (six_cells hx3).2.2.2.2.2
              have fx := Lib.frozen_of_heap hx3
              have u0 := (six_cells zr3).1
              have u1 := (six_cells zr3).2.1
              have u2 := (six_cells zr3).2.2.1
              have u3 := (six_cells zr3).2.2.2.1
              have u4 := (six_cells zr3).2.2.2.2.1
              have u5 := (six_cells zr3).2.2.2.2.2
              have fz := Lib.frozen_of_heap zr3
              clear hR3 hK2 HK3 hil3 IH
              go_wp2_with fail
              refine bodyPost_ret (results_row_tmp (P := Tryz.prog) rfl _ _ w.heap.size _ _ _ _ rfl (set_six zr3 _ _ _ _ _ _) Tryz.underlying25 rfl part_size) rfl ?_
              refine ⟨_, rfl, ?_, by rw [← HX.out]; exact six_parsR p3 nQR _ _ _ _ _ _, six_but y3 (Nat.le_refl _) _ _ _ _ _ _⟩
              rw [← HX.out]
              refine ⟨_, rfl, ?_⟩
              have hrd := reads_of_owns (ok := fun j => w5.heap.size ≤ j) hown3 (fun g h => (hown3.lt g h).1) (fun x hx => reads_keep (HKS3.out x hx) (Nat.le_refl _) (fun _ _ _ => rfl) (fun j h _ => h.1))
              refine reads_keep hrd (by rw [six_size]; exact Nat.le_refl _) (fun j hj _ => six_heap wz _ _ _ _ _ _ j ?_) (fun j hj _ => Nat.le_trans y5.size hj)
              have h1 := y5.size
              have hj2 : w5.heap.size ≤ j := hj
              omega

theorem rpart_any (S : List UInt8) (hS : S.length ≤ 9000) : ∀ g, RPartOk S g
  | 0 => by
    intro n fr te Q d w hg hd hft hte hn hQ hQG hQF hM hFi
    refine (rpart_fail S n fr te Q d w hn (by omega) (by omega) (Or.inr (by omega)) hQ).mono ?_
    rintro e w' ⟨rfl, h1, h2⟩
    exact ⟨_, rfl, rfl, h1, h2⟩
  | g + 1 => rpart_step S hS g (rpart_any S hS g)
end Go.Proofs.YtmjfhhladicacaaGreatDoor
