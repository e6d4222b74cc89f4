/- The walk over letterboxkeep.FlagsAlgebra where both are sets: it returns true. Conditions: flags.system lies as the program's text lays it. -/
import Derived.Test.YtdjmihnmhmdobaaDoorFlagsAlgW
import Derived.Deep.RegionLaw
namespace Go.Proofs.YtdjmihnmhmdobaaDoor
open Go.RowKit Go.Shelf Go.Sort

theorem srow_cell {W : World} {ao : Option Addr} {n cap : Nat} {l : List (List UInt8)} (h : SRow W (.slice ao n cap) l) : ∀ (j : Nat) (t : List UInt8), l[j]? = some t → ∃ b off, ao = some ⟨b, off, none⟩ ∧ b < W.heap.size ∧ W.cell? ⟨b, off + j, none⟩ = some (.string ⟨t.toArray⟩) := by
  obtain ⟨ao', cap', e, _, _, h⟩ := h
  cases e
  exact h
set_option maxRecDepth 100000 in
set_option maxHeartbeats 16000000 in
theorem alg_ok (a b x z : List (List UInt8)) (av bv : Value) (by_ : Int) (w : World) (ha : SRow w av a) (hb : SRow w bv b) (hA : textsF a = true) (hB : textsF b = true) (hG : FlagG w) (hsa : setF a = .inr x) (hsb : setF b = .inr z) (hlo : -9223372036854775808 ≤ by_) (hhi : by_ ≤ 9223372036854775807) :
    Calls Tryd.prog 3 #[av, bv, .int .i64 by_] w fun e w' => e = .returned (.bool true) ∧ Below w.heap.size w w' := by
  obtain ⟨sa, hal⟩ := texts_short hA
  obtain ⟨sb, hbl⟩ := texts_short hB
  have cA := fun W (h : Below w.heap.size w W) => texts_any av a W (ha.below h) (fun t ht => by have := sa.2 t ht; omega)
  have cB := fun W (h : Below w.heap.size w W) => texts_any bv b W (hb.below h) (fun t ht => by have := sb.2 t ht; omega)
  have cF := fun W (h : Below w.heap.size w W) => flagged_any W (hG.below h)
  have cSa := fun W (h : Below w.heap.size w W) => set_good hsa av W (ha.below h) sa (hG.below h)
  have cSb := fun W (h : Below w.heap.size w W) => set_good hsb bv W (hb.below h) sb (hG.below h)
  have HG : ∀ W, Below w.heap.size w W → FlagG W := fun W h => hG.below h
  have xl := (set_ok hsa).2.2
  have zl := (set_ok hsb).2.2
  have xs := set_strict hsa
  have zs := set_strict hsb
  have xn := set_names hsa
  have zn := set_names hsb
  have y := Below.refl w.heap.size w
  rw [hA] at cA
  rw [hB] at cB
  obtain ⟨aa, ac, rfl, hcap, ⟨hcm, hnn⟩, hcell⟩ := ha
  obtain ⟨ba, bc, rfl, hcapb, ⟨hcmb, hnnb⟩, hcellb⟩ := hb
  have HCa := Lib.hid hcell
  have HSA := Lib.hid hsa
  have HXS := Lib.hid (And.intro (And.intro xs zs) (And.intro xn zn))
  have HSH := Lib.hid sa
  clear hA hB hsb hcell hcellb xs zs xn zn hsa hG sa sb
  go_enter Tryd.func3, Tryd.ntmps3
  go_upto_if 48 with (first
    | (go_at_call 4; with_reducible refine (cA _ y).mono ?_; rintro e w1 ⟨rfl, h⟩; have y := y.trans (h.mono y.size))
    | (go_at_call 4; with_reducible refine (cB _ y).mono ?_; rintro e w1 ⟨rfl, h⟩; have y := y.trans (h.mono y.size))
    | (go_at_call 5; with_reducible refine (cF _ y).mono ?_; rintro e w1 ⟨rfl, h⟩; have y := y.trans (h.mono y.size))
    | (go_at_call 6; with_reducible refine (cSa _ y).mono ?_; rintro e w1 ⟨xa, xc, rfl, X, h⟩; have y := y.trans (h.mono y.size))
    | (go_at_call 6; with_reducible refine (cSb _ y).mono ?_; rintro e w2 ⟨za, zc, rfl, Z, h⟩; have y := y.trans (h.mono y.size); have X := Lib.hid (X.out.below h)))
  clear cA cB cF cSa cSb h
  go_cut [] (fun wx => Below w2.heap.size w2 wx)
  case first =>
    by_cases ha0 : a = []
    · subst ha0
      go_wp2_with fail
      go_meet
      exact Below.refl _ _
    · have hpos : 0 < a.length := List.length_pos_iff.2 ha0
      have hposz : (0 : Int) < (a.length : Int) := by omega
      have cK := fun W => pick_any by_ a.length W hpos (by omega) hlo hhi
      have hk := pick_lt by_ hpos
      generalize pickF by_ a.length = k at cK hk
      obtain ⟨s, hs⟩ : ∃ s, a[k]? = some s := ⟨a[k], List.getElem?_eq_getElem hk⟩
      obtain ⟨b0, off, rfl, hb0, hc0⟩ := HCa.out k s hs
      have d := (y.cell (p := ⟨b0, off + k, none⟩) hb0).trans hc0
      clear ha0 hc0
      go_upto_region 11 with (go_at_call 7; with_reducible refine (cK _).mono ?_; rintro e w3 ⟨rfl, hw⟩; subst hw)
      have hkz : (0 : Int) ≤ (k : Int) := by omega
      have hka : (k : Int) ≤ (a.length : Int) := by omega
      have hkc : (k : Int) ≤ (ac : Int) := by omega
      have rs1 := slice_from b0 off a.length ac k hk hcap
      have rs2 := slice_upto b0 off a.length ac k hk hcap
      have hdk : ∀ W, Below w2.heap.size w2 W → ∀ (j : Nat) (t : List UInt8), (a.drop k)[j]? = some t → W.cell? ((⟨b0, off + k, none⟩ : Addr).add j) = some (.string ⟨t.toArray⟩) := fun W hW j t ht => by
        rw [List.getElem?_drop] at ht
        obtain ⟨b', off', e1, e2, e3⟩ := HCa.out (k + j) t ht
        cases e1
        have y9 := y.trans (hW.mono y.size)
        rw [add_pl, Nat.add_assoc]
        exact (y9.cell (p := ⟨b0, off + (k + j), none⟩) hb0).trans e3
      have htk : ∀ W, Below w2.heap.size w2 W → ∀ (j : Nat) (t : List UInt8), (a.take k)[j]? = some t → W.cell? ((⟨b0, off, none⟩ : Addr).add j) = some (.string ⟨t.toArray⟩) := fun W hW j t ht => by
        have hjk : j < k := by
          have := (List.getElem?_eq_some_iff.1 ht).1
          rw [List.length_take] at this; omega
        rw [List.getElem?_take, if_pos hjk] at ht
        obtain ⟨b', off', e1, e2, e3⟩ := HCa.out j t ht
        cases e1
        have y9 := y.trans (hW.mono y.size)
        rw [add_pl]
        exact (y9.cell (p := ⟨b0, off + j, none⟩) hb0).trans e3
      have yE : Below w2.heap.size w2 (w2.drew.alloc (.cells #[] 9)) := ((Below.refl _ _).drew).alloc (Nat.le_refl _) _
      have yEX : Below w2.heap.size w2 ((w2.drew.alloc (.cells #[] 9)).alloc (.cells #[.string ⟨s.toArray⟩] 9)) := yE.alloc yE.size _
      have yX : Below w2.heap.size w2 (w2.drew.alloc (.cells #[.string ⟨s.toArray⟩] 9)) := ((Below.refl _ _).drew).alloc (Nat.le_refl _) _
      have yXE : Below w2.heap.size w2 ((w2.drew.alloc (.cells #[.string ⟨s.toArray⟩] 9)).alloc (.cells #[] 9)) := yX.alloc yX.size _
      have xEX : ((w2.drew.alloc (.cells #[] 9)).alloc (.cells #[.string ⟨s.toArray⟩] 9)).cell? ⟨w2.heap.size + 1, 0, none⟩ = some (.string ⟨s.toArray⟩) := by
        have h : ((w2.drew.alloc (.cells #[] 9)).alloc (.cells #[.string ⟨s.toArray⟩] 9)).heap[w2.heap.size + 1]? = some (.cells #[.string ⟨s.toArray⟩] 9) := new_AB w2.drew _ _
        rw [Lib.cell_of_heap h]; rfl
      have xXE : ((w2.drew.alloc (.cells #[.string ⟨s.toArray⟩] 9)).alloc (.cells #[] 9)).cell? ⟨w2.heap.size, 0, none⟩ = some (.string ⟨s.toArray⟩) := (World.cell?_alloc_lt (w2.drew.alloc (.cells #[.string ⟨s.toArray⟩] 9)) _ ⟨w2.heap.size, 0, none⟩ (by rw [alloc_size]; exact Nat.lt_succ_self _)).trans (one_cell w2.drew s)
      have hb2 : b0 < w2.heap.size := Nat.lt_of_lt_of_le hb0 y.size
      have cSet : ∀ g c n W, Hid (([] ++ a.drop k ++ a.take k ++ [s]).length = n) → W.ownsRow w2.heap.size 9 1 (.slice (some ⟨g, 0, none⟩) n c) n (([] ++ a.drop k ++ a.take k ++ [s]).map encStr) → Below w2.heap.size w2 W → Calls Tryd.prog 6 #[.slice (some ⟨g, 0, none⟩) n c] W fun e w' => ∃ ao cap, e = .returned (.tuple #[.slice ao x.length cap, .nilIface]) ∧ Hid (SRow w' (.slice ao x.length cap) x) ∧ Below W.heap.size W w' := fun g c n W hn ho hW => by
        have hmem : ∀ u, u ∈ ([] ++ a.drop k ++ a.take k ++ [s]) ↔ u ∈ a := fun u => by
          have := mem_turn hs u
          unfold turnL at this
          simpa using this
        refine set_good (set_congr HSA.out hmem) _ W (srow_own ho hn.out) ⟨by simp; omega, fun u hu => ?_⟩ (HG _ (y.trans (hW.mono y.size)))
        exact HSH.out.2 u ((hmem u).1 hu)
      have HSET := Lib.hid cSet
      clear cSet
      go_region_held3 (fun W => W.cell? ⟨b0, off + k, none⟩ = some (.string ⟨s.toArray⟩))
        (first | go_keep | exact d7 | exact d6 | exact d5 | exact d4 | exact (World.cell?_alloc_lt w5 _ ⟨b0, off + k, none⟩ s5).trans d5 | exact (World.cell?_alloc_lt w4 _ ⟨b0, off + k, none⟩ s4).trans d4)
        (first
          | (go_at_call 6; go_loud ((with_reducible refine (HSET.out g3 c3 l3 _ m3 o3 y6).mono ?_); rintro e w7 ⟨ta, tc, rfl, T, h⟩; have y7 := y6.trans (h.mono y6.size); have d7 := (y7.cell (p := ⟨b0, off + k, none⟩) hb2).trans d; have X := Lib.hid (X.out.below (y7))))
          | (refine step_appL (w5) rfl _ _ 22 rfl 9 Tryd.underlying22 str_info rfl w2.heap.size g2 _ c2 ([] ++ a.drop k ++ a.take k) rfl m2.out (o2) ⟨_, 0, none⟩ [s] 1 1 rfl rfl (one_row (x5)) (by simp; omega) (by decide) (y5).size ?_; intro g3 c3 l3 w6 m3 o3 r3 t3; have y6 := Below.grown (y5) r3 (y5).size (fun j e => by cases e; exact (o2.lt _ rfl).1); have d6 := (y6.cell (p := ⟨b0, off + k, none⟩) hb2).trans d; have s6 := Nat.lt_of_lt_of_le hb2 y6.size)
          | (refine step_appL (w5.alloc (.cells #[.string ⟨s.toArray⟩] 9)) rfl _ _ 22 rfl 9 Tryd.underlying22 str_info rfl w2.heap.size g2 _ c2 ([] ++ a.drop k ++ a.take k) rfl m2.out (o2.alloc _) ⟨w5.heap.size, 0, none⟩ [s] 1 1 rfl rfl (one_row (one_cell w5 s)) (by simp; omega) (by decide) ((y5.alloc y5.size (.cells #[.string ⟨s.toArray⟩] 9))).size ?_; intro g3 c3 l3 w6 m3 o3 r3 t3; have y6 := Below.grown ((y5.alloc y5.size (.cells #[.string ⟨s.toArray⟩] 9))) r3 ((y5.alloc y5.size (.cells #[.string ⟨s.toArray⟩] 9))).size (fun j e => by cases e; exact (o2.lt _ rfl).1); have d6 := (y6.cell (p := ⟨b0, off + k, none⟩) hb2).trans d; have s6 := Nat.lt_of_lt_of_le hb2 y6.size)
          | (refine step_appL (w4) rfl _ _ 22 rfl 9 Tryd.underlying22 str_info rfl w2.heap.size g1 _ c1 ([] ++ a.drop k) rfl m1.out (o1) ⟨b0, off, none⟩ (a.take k) k ac rfl (by simp; omega) (htk _ (y4)) (by simp; omega) (by decide) (y4).size ?_; intro g2 c2 l2 w5 m2 o2 r2 t2; have y5 := Below.grown (y4) r2 (y4).size (fun j e => by cases e; exact (o1.lt _ rfl).1); have d5 := (y5.cell (p := ⟨b0, off + k, none⟩) hb2).trans d; have s5 := Nat.lt_of_lt_of_le hb2 y5.size; have x5 := cell_grown r2 (Ne.symm n4) x4; have n5 := lies_ne t2 n4 (cell_lt x4))
          | (refine step_appL (w4.alloc (.cells #[.string ⟨s.toArray⟩] 9)) rfl _ _ 22 rfl 9 Tryd.underlying22 str_info rfl w2.heap.size g1 _ c1 ([] ++ a.drop k) rfl m1.out (o1.alloc _) ⟨b0, off, none⟩ (a.take k) k ac rfl (by simp; omega) (htk _ ((y4.alloc y4.size (.cells #[.string ⟨s.toArray⟩] 9)))) (by simp; omega) (by decide) ((y4.alloc y4.size (.cells #[.string ⟨s.toArray⟩] 9))).size ?_; intro g2 c2 l2 w5 m2 o2 r2 t2; have y5 := Below.grown ((y4.alloc y4.size (.cells #[.string ⟨s.toArray⟩] 9))) r2 ((y4.alloc y4.size (.cells #[.string ⟨s.toArray⟩] 9))).size (fun j e => by cases e; exact (o1.lt _ rfl).1); have d5 := (y5.cell (p := ⟨b0, off + k, none⟩) hb2).trans d; have s5 := Nat.lt_of_lt_of_le hb2 y5.size; have x5 := cell_grown r2 (Ne.symm (Nat.ne_of_lt (o1.lt _ rfl).2)) (one_cell w4 s); have n5 := lies_ne t2 (Nat.ne_of_lt (o1.lt _ rfl).2) (cell_lt (one_cell w4 s)))
          | (refine step_appL (w4) rfl _ _ 22 rfl 9 Tryd.underlying22 str_info rfl w2.heap.size g1 _ c1 ([] ++ a.drop k) rfl m1.out (o1) ⟨b0, off, none⟩ (a.take k) k ac rfl (by simp; omega) (htk _ (y4)) (by simp; omega) (by decide) (y4).size ?_; intro g2 c2 l2 w5 m2 o2 r2 t2; have y5 := Below.grown (y4) r2 (y4).size (fun j e => by cases e; exact (o1.lt _ rfl).1); have d5 := (y5.cell (p := ⟨b0, off + k, none⟩) hb2).trans d; have s5 := Nat.lt_of_lt_of_le hb2 y5.size)
          | (refine step_appL (w2.drew.alloc (.cells #[] 9)) rfl _ _ 22 rfl 9 Tryd.underlying22 str_info rfl w2.heap.size (w2.heap.size) 0 0 [] rfl rfl (own_empty _ _ (Nat.le_refl _)) ⟨b0, off + k, none⟩ (a.drop k) (a.length - k) (ac - k) rfl (by simp) (hdk _ (yE)) (by simp; omega) (by decide) (yE).size ?_; intro g1 c1 l1 w4 m1 o1 r1 t1; have y4 := Below.grown (yE) r1 (yE).size (fun j e => by cases e; omega); have d4 := (y4.cell (p := ⟨b0, off + k, none⟩) hb2).trans d; have s4 := Nat.lt_of_lt_of_le hb2 y4.size)
          | (refine step_appL ((w2.drew.alloc (.cells #[] 9)).alloc (.cells #[.string ⟨s.toArray⟩] 9)) rfl _ _ 22 rfl 9 Tryd.underlying22 str_info rfl w2.heap.size (w2.heap.size) 0 0 [] rfl rfl ((own_empty w2.drew w2.heap.size (Nat.le_refl _)).alloc _) ⟨b0, off + k, none⟩ (a.drop k) (a.length - k) (ac - k) rfl (by simp) (hdk _ (yEX)) (by simp; omega) (by decide) (yEX).size ?_; intro g1 c1 l1 w4 m1 o1 r1 t1; have y4 := Below.grown (yEX) r1 (yEX).size (fun j e => by cases e; omega); have d4 := (y4.cell (p := ⟨b0, off + k, none⟩) hb2).trans d; have s4 := Nat.lt_of_lt_of_le hb2 y4.size; have n4 : g1 ≠ w2.heap.size + 1 := lies_ne t1 (by omega) (cell_lt xEX); have x4 : w4.cell? ⟨w2.heap.size + 1, 0, none⟩ = some (.string ⟨s.toArray⟩) := cell_grown r1 (by omega) xEX)
          | (refine step_appL ((w2.drew.alloc (.cells #[.string ⟨s.toArray⟩] 9)).alloc (.cells #[] 9)) rfl _ _ 22 rfl 9 Tryd.underlying22 str_info rfl w2.heap.size (w2.heap.size + 1) 0 0 [] rfl rfl (own_emptyX w2 _) ⟨b0, off + k, none⟩ (a.drop k) (a.length - k) (ac - k) rfl (by simp) (hdk _ (yXE)) (by simp; omega) (by decide) (yXE).size ?_; intro g1 c1 l1 w4 m1 o1 r1 t1; have y4 := Below.grown (yXE) r1 (yXE).size (fun j e => by cases e; omega); have d4 := (y4.cell (p := ⟨b0, off + k, none⟩) hb2).trans d; have s4 := Nat.lt_of_lt_of_le hb2 y4.size; have n4 : g1 ≠ w2.heap.size := lies_ne t1 (by omega) (cell_lt xXE); have x4 : w4.cell? ⟨w2.heap.size, 0, none⟩ = some (.string ⟨s.toArray⟩) := cell_grown r1 (by omega) xXE))
      all_goals
        have cE := equal_any _ _ x w7 T.out X.out (by omega)
        clear HSET cK rs1 rs2 hdk htk HCa HSA HSH
        go_wp2_with (go_at_call 8; go_loud ((with_reducible refine cE.mono ?_); rintro e w8 ⟨rfl, h⟩; have y8 := y7.trans (h.mono y7.size)))
        go_meet
        exact y8
  case rest =>
    have yx := y.trans (hcut.mono y.size)
    have X := Lib.hid (X.out.below hcut)
    have Z := Lib.hid (Z.out.below hcut)
    have G := HG wc yx
    obtain ⟨⟨xs, zs⟩, xn, zn⟩ := HXS.out
    have hol := canon_len (x ++ z)
    rw [List.length_append] at hol
    have hnl : (notF x z).length ≤ x.length := List.length_filter_le ..
    have cOr := fun W (h : Below wc.heap.size wc W) => or_good x z _ _ W (X.out.below h) (Z.out.below h) (by omega) (by omega) (G.below h)
    have cNot := fun W (h : Below wc.heap.size wc W) => not_good x z _ _ W (X.out.below h) (Z.out.below h) (by omega) (by omega)
    have cOr2 := fun W (h : Below wc.heap.size wc W) => or_good z x _ _ W (Z.out.below h) (X.out.below h) (by omega) (by omega) (G.below h)
    have cXX := fun W (h : Below wc.heap.size wc W) => or_good x x _ _ W (X.out.below h) (X.out.below h) (by omega) (by omega) (G.below h)
    have cNN : ∀ W (h : Below wc.heap.size wc W), Calls Tryd.prog 10 #[.slice xa x.length xc, .slice xa x.length xc] W fun e w' => ∃ ao cap, e = .returned (.slice ao 0 cap) ∧ Below W.heap.size W w' := fun W h => by
      have := not_good x x _ _ W (X.out.below h) (X.out.below h) (by omega) (by omega)
      rw [not_self] at this
      exact this.mono (by rintro e w' ⟨ao, cap, rfl, _, h⟩; exact ⟨ao, cap, rfl, h⟩)
    have hmem : ∀ s, s ∈ canonF (x ++ z) → s ∈ x ∨ s ∈ z := fun s hs => by rwa [mem_canon, List.mem_append] at hs
    have hmn := mem_not x z
    have eON := not_or xs z
    have eNO := or_not x z
    rw [orF_comm x z] at cOr2
    rw [or_self xs] at cXX
    generalize canonF (x ++ z) = o at cOr cOr2 hol hmem eON eNO
    generalize notF x z = n at cNot hnl hmn eON eNO
    have cON : ∀ W v, SRow W v o → Below wc.heap.size wc W → Calls Tryd.prog 10 #[v, .slice za z.length zc] W fun e w' => ∃ ao cap, e = .returned (.slice ao n.length cap) ∧ Hid (SRow w' (.slice ao n.length cap) n) ∧ Below W.heap.size W w' := fun W v hv h => by
      have := not_good o z v _ W hv (Z.out.below h) (by omega) (by omega)
      rwa [eON] at this
    have cNO : ∀ W v, SRow W v n → Below wc.heap.size wc W → Calls Tryd.prog 9 #[v, .slice za z.length zc] W fun e w' => ∃ ao cap, e = .returned (.slice ao o.length cap) ∧ Hid (SRow w' (.slice ao o.length cap) o) ∧ Below W.heap.size W w' := fun W v hv h => by
      have := or_good n z v _ W hv (Z.out.below h) (by omega) (by omega) (G.below h)
      rwa [eNO] at this
    have cE := fun (l : List (List UInt8)) v u W (h1 : SRow W v l) (h2 : SRow W u l) (hl : l.length ≤ 1000000) => equal_any v u l W h1 h2 hl
    have hM := Lib.hid hmem
    have hMN := Lib.hid hmn
    have hXN := Lib.hid (And.intro xn zn)
    have yW := Below.refl wc.heap.size wc
    clear hmem hmn eON eNO hcut y xs zs xn zn HXS HG HCa HSA HSH
    go_upto_if 170 with (first
      | (go_at_call 9; with_reducible refine (cOr _ yW).mono ?_; rintro e W1 ⟨oa, oc, rfl, O, h⟩; have yW := yW.trans (h.mono yW.size))
      | (go_at_call 10; with_reducible refine (cNot _ yW).mono ?_; rintro e W2 ⟨na, nc, rfl, NN, h⟩; have O := Lib.hid (O.out.below h); have yW := yW.trans (h.mono yW.size))
      | (go_at_call 9; with_reducible refine (cOr2 _ yW).mono ?_; rintro e W3 ⟨oa2, oc2, rfl, O2, h⟩; have O := Lib.hid (O.out.below h); have NN := Lib.hid (NN.out.below h); have yW := yW.trans (h.mono yW.size))
      | (go_at_call 8; with_reducible refine (cE o _ _ _ O.out O2.out (by omega)).mono ?_; rintro e W4 ⟨rfl, h⟩; have O := Lib.hid (O.out.below h); have NN := Lib.hid (NN.out.below h); have yW := yW.trans (h.mono yW.size))
      | (go_at_call 9; with_reducible refine (cXX _ yW).mono ?_; rintro e W5 ⟨xa2, xc2, rfl, X2, h⟩; have O := Lib.hid (O.out.below h); have NN := Lib.hid (NN.out.below h); have yW := yW.trans (h.mono yW.size))
      | (go_at_call 8; with_reducible refine (cE x _ _ _ X2.out (X.out.below yW) (by omega)).mono ?_; rintro e W6 ⟨rfl, h⟩; have O := Lib.hid (O.out.below h); have NN := Lib.hid (NN.out.below h); have yW := yW.trans (h.mono yW.size))
      | (go_at_call 10; with_reducible refine (cNN _ yW).mono ?_; rintro e W7 ⟨ea, ec, rfl, h⟩; have O := Lib.hid (O.out.below h); have NN := Lib.hid (NN.out.below h); have yW := yW.trans (h.mono yW.size))
      | (go_at_call 10; with_reducible refine (cON _ _ O.out yW).mono ?_; rintro e W8 ⟨na2, nc2, rfl, N2, h⟩; have O := Lib.hid (O.out.below h); have NN := Lib.hid (NN.out.below h); have yW := yW.trans (h.mono yW.size))
      | (go_at_call 8; with_reducible refine (cE n _ _ _ N2.out NN.out (by omega)).mono ?_; rintro e W9 ⟨rfl, h⟩; have O := Lib.hid (O.out.below h); have NN := Lib.hid (NN.out.below h); have yW := yW.trans (h.mono yW.size))
      | (go_at_call 9; with_reducible refine (cNO _ _ NN.out yW).mono ?_; rintro e W10 ⟨oa3, oc3, rfl, O3, h⟩; have O := Lib.hid (O.out.below h); have NN := Lib.hid (NN.out.below h); have yW := yW.trans (h.mono yW.size))
      | (go_at_call 8; with_reducible refine (cE o _ _ _ O3.out O.out (by omega)).mono ?_; rintro e W11 ⟨rfl, h⟩; have O := Lib.hid (O.out.below h); have NN := Lib.hid (NN.out.below h); have yW := yW.trans (h.mono yW.size)))
    clear cOr cOr2 cNot cXX cNN cON cNO cE
    go_wp2_with fail
    go_loopg [16] o.length (fun g16 s16 wr => ∃ k : Nat, k + g16 = o.length ∧ s16 = .int .i64 (k : Int) ∧ Below W11.heap.size W11 wr)
    case atStart => exact ⟨0, by omega, rfl, Below.refl _ _⟩
    case round =>
      obtain ⟨k, hk, rfl, hr⟩ := hrel
      have yr := yW.trans (hr.mono yW.size)
      have O := Lib.hid (O.out.below hr)
      have NN := Lib.hid (NN.out.below hr)
      have X := Lib.hid (X.out.below yr)
      have Z := Lib.hid (Z.out.below yr)
      have G := G.below yr
      by_cases hlt : k < o.length
      · obtain ⟨g', rfl⟩ : ∃ g', gk = g' + 1 := ⟨gk - 1, by omega⟩
        obtain ⟨s, hs⟩ : ∃ s, o[k]? = some s := ⟨o[k], List.getElem?_eq_getElem hlt⟩
        obtain ⟨b0, off, rfl, hb, hc⟩ := srow_cell O.out k s hs
        have hsm := hM.out s (List.mem_of_getElem? hs)
        have hsn : nameF s = .inr s := hsm.elim (hXN.out.1 s) (hXN.out.2 s)
        have hs20 := name_len hsn
        have cNm : Calls Tryd.prog 11 #[.string ⟨s.toArray⟩] wr fun e w' => e = .returned (.tuple #[.string ⟨s.toArray⟩, .nilIface]) ∧ Below wr.heap.size wr w' := by
          have := fname_any s wr (by omega) G
          rwa [hsn] at this
        have cHa : ∀ (l : List (List UInt8)) v (bb : Bool) W, SRow wr v l → l.length ≤ 1000000 → decide (s ∈ l) = bb → Below wr.heap.size wr W → Calls Tryd.prog 12 #[v, .string ⟨s.toArray⟩] W fun e w' => e = .returned (.bool bb) ∧ Below W.heap.size W w' := fun l v bb W hv hl hd h => by
          have := has_any v l s W (hv.below h) hl (by omega) (G.below h)
          rw [has_name hsn, hd] at this
          exact this
        obtain ⟨bn, bx, bz, hn, hx, hz, hor⟩ : ∃ bn bx bz : Bool, decide (s ∈ n) = bn ∧ decide (s ∈ x) = bx ∧ decide (s ∈ z) = bz ∧ ((bn = false ∧ bx = true ∧ bz = true) ∨ (bn = true ∧ bx = true ∧ bz = false) ∨ (bn = false ∧ bx = false ∧ bz = true)) := by
          refine ⟨_, _, _, rfl, rfl, rfl, ?_⟩
          have := hMN.out s
          by_cases h1 : s ∈ x <;> by_cases h2 : s ∈ z <;> simp [this, h1, h2] at hsm ⊢
        have cHn := fun W h => cHa n _ bn W NN.out (by omega) hn h
        have cHx := fun W h => cHa x _ bx W X.out (by omega) hx h
        have cHz := fun W h => cHa z _ bz W Z.out (by omega) hz h
        have yq := Below.refl wr.heap.size wr
        clear cHa hn hx hz hsm hsn hs hM hMN hXN
        rcases hor with ⟨rfl, rfl, rfl⟩ | ⟨rfl, rfl, rfl⟩ | ⟨rfl, rfl, rfl⟩ <;>
        · go_wp2_with (first
            | (go_at_call 11; with_reducible refine cNm.mono ?_; rintro e w1 ⟨rfl, h⟩; have yq := yq.trans (h.mono yq.size))
            | (go_at_call 12; with_reducible refine (cHn _ yq).mono ?_; rintro e w1 ⟨rfl, h⟩; have yq := yq.trans (h.mono yq.size))
            | (go_at_call 12; with_reducible refine (cHx _ yq).mono ?_; rintro e w1 ⟨rfl, h⟩; have yq := yq.trans (h.mono yq.size))
            | (go_at_call 12; with_reducible refine (cHz _ yq).mono ?_; rintro e w1 ⟨rfl, h⟩; have yq := yq.trans (h.mono yq.size)))
          go_roundg g'
          case measure => omega
          case rel => exact ⟨k + 1, by omega, by go_num, hr.trans (yq.mono hr.size)⟩
      · go_wp2_with fail
        go_ret
        exact ⟨rfl, yx.trans (yr.mono yx.size)⟩
end Go.Proofs.YtdjmihnmhmdobaaDoor
