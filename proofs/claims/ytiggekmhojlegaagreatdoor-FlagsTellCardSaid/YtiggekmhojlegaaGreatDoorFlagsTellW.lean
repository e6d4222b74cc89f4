/- The walk over letterboxlaw.FlagsTell: it returns true, whatever it is given. Conditions: flags.system and errors.errorType lie as the program's text lays them. -/
import Derived.Test.YtiggekmhojlegaaGreatDoorRFlagC
import Derived.Test.YtiggekmhojlegaaGreatDoorTell
import Derived.Deep.DeepCutAuto
import Derived.Deep.RegionHeld3
import Derived.Deep.RegionLaw
namespace Go.Proofs.YtiggekmhojlegaaGreatDoor
open Go.RowKit Go.Shelf Go.Sort

def TellG (w : World) : Prop := FlagG w ∧ ErrTy w
theorem TellG.below {w w' : World} (h : TellG w) (hb : Below w.heap.size w w') : TellG w' := ⟨h.1.below hb, errTy_below h.2 hb⟩

/-- a flag's name, told both ways -/
theorem tell_name (s : List UInt8) (w : World) (hs : s.length ≤ 100) (hG : TellG w) : ∃ (tv : List UInt8) (ev : Value) (n : Int), tv.length ≤ 20 ∧
    (∀ W, Below w.heap.size w W → Calls Tryz.prog 5 #[.string ⟨s.toArray⟩] W fun e w' => e = .returned (.tuple #[.string ⟨tv.toArray⟩, .int .i64 n]) ∧ Below W.heap.size W w') ∧
    (∀ W, Below w.heap.size w W → Calls Tryz.prog 6 #[.string ⟨s.toArray⟩] W fun e w' => e = .returned (.tuple #[.string ⟨tv.toArray⟩, ev]) ∧ Below W.heap.size W w') ∧
    (∀ W, Below w.heap.size w W → Calls Tryz.prog 7 #[ev, .int .i64 n] W fun e w' => e = .returned (.bool true) ∧ Below W.heap.size W w') ∧
    ((tv = [] ∧ ∀ l, hasF l s = false) ∨ (tv ≠ [] ∧ ∀ l, hasF l s = decide (tv ∈ l))) := by
  have c1 := fun W => rname_any s W (by omega)
  have c2 := fun W (h : Below w.heap.size w W) => fname_any s W (by omega) (hG.below h).1
  cases hn : nameF s with
  | inl n =>
    rw [hn] at c1 c2
    refine ⟨[], .iface 24 (.int .i64 (n : Int)), n, by decide, fun W _ => c1 W, c2, fun W h => ?_, Or.inl ⟨rfl, fun l => by unfold hasF; rw [hn]⟩⟩
    have := bare_err (n : Int) (n : Int) W (hG.below h).2
    simpa using this
  | inr t =>
    rw [hn] at c1 c2
    refine ⟨t, .nilIface, 0, name_len hn, fun W _ => c1 W, c2, fun W h => bare_nil 0 W, Or.inr ⟨fun e => ?_, fun l => by unfold hasF; rw [hn]⟩⟩
    subst e
    have := name_name hn
    rw [show nameF [] = .inl 3 from by decide] at this
    cases this

/-- what some flags are together, told both ways -/
theorem tell_set (l : List (List UInt8)) (v : Value) (w : World) (hv : SRow w v l) (hl : Short l) (hG : TellG w) : ∃ (L : List (List UInt8)) (ev : Value) (n : Int), L.length ≤ 12 ∧ (∀ t ∈ L, t.length ≤ 20) ∧
    (∀ W, Below w.heap.size w W → Calls Tryz.prog 8 #[v] W fun e w' => ∃ ao cap, e = .returned (.tuple #[.slice ao L.length cap, .int .i64 n]) ∧ Hid (SRow w' (.slice ao L.length cap) L) ∧ Below W.heap.size W w') ∧
    (∀ W, Below w.heap.size w W → Calls Tryz.prog 9 #[v] W fun e w' => ∃ ao cap, e = .returned (.tuple #[.slice ao L.length cap, ev]) ∧ Hid (SRow w' (.slice ao L.length cap) L) ∧ Below W.heap.size W w') ∧
    (∀ W, Below w.heap.size w W → Calls Tryz.prog 7 #[ev, .int .i64 n] W fun e w' => e = .returned (.bool true) ∧ Below W.heap.size W w') := by
  have c1 := fun W (h : Below w.heap.size w W) => rset_any v l W (hv.below h) hl
  have c2 := fun W (h : Below w.heap.size w W) => set_any v l W (hv.below h) hl (hG.below h).1
  cases hn : setF l with
  | inl n =>
    rw [hn] at c1 c2
    refine ⟨[], .iface 24 (.int .i64 (n : Int)), n, by decide, (fun t ht => by cases ht), fun W h => (c1 W h).mono ?_, fun W h => (c2 W h).mono ?_, fun W h => ?_⟩
    · rintro e w' ⟨r, rfl, h1, h2⟩
      have h1' : r = .tuple #[.slice none 0 0, .int .i64 (n : Int)] := h1
      exact ⟨none, 0, by rw [h1']; rfl, SRow.nil _, h2⟩
    · rintro e w' ⟨r, rfl, h1, h2⟩
      have h1' : r = .tuple #[.slice none 0 0, .iface 24 (.int .i64 (n : Int))] := h1
      exact ⟨none, 0, by rw [h1']; rfl, SRow.nil _, h2⟩
    · have := bare_err (n : Int) (n : Int) W (hG.below h).2
      simpa using this
  | inr L =>
    rw [hn] at c1 c2
    refine ⟨L, .nilIface, 0, (set_ok hn).2.2, set_short hn, fun W h => (c1 W h).mono ?_, fun W h => (c2 W h).mono ?_, fun W h => bare_nil 0 W⟩
    · rintro e w' ⟨r, rfl, ⟨sv, rfl, h1⟩, h2⟩
      have h1' := h1
      obtain ⟨ao, cap, rfl, _⟩ := h1'
      exact ⟨ao, cap, rfl, h1, h2⟩
    · rintro e w' ⟨r, rfl, ⟨sv, rfl, h1⟩, h2⟩
      have h1' := h1
      obtain ⟨ao, cap, rfl, _⟩ := h1'
      exact ⟨ao, cap, rfl, h1, h2⟩

set_option maxRecDepth 100000 in
set_option maxHeartbeats 8000000 in
theorem tell_long (a b : List (List UInt8)) (s : List UInt8) (av bv : Value) (w : World) (ha : SRow w av a) (hb : SRow w bv b) (hat : ∀ t ∈ a, t.length ≤ 9223372036854775807) (hbt : ∀ t ∈ b, t.length ≤ 9223372036854775807) (hsl : s.length ≤ 9223372036854775807) (h : textsF a = false ∨ (textsF a = true ∧ textsF b = false) ∨ (textsF a = true ∧ textsF b = true ∧ 100 < s.length)) :
    Calls Tryz.prog 3 #[av, bv, .string ⟨s.toArray⟩] w fun e w' => e = .returned (.bool true) ∧ Below w.heap.size w w' := by
  have cA := fun W (h : Below w.heap.size w W) => ltexts_any av a W (ha.below h) hat
  have cB := fun W (h : Below w.heap.size w W) => ltexts_any bv b W (hb.below h) hbt
  have hts := text_size s
  have y := Below.refl w.heap.size w
  rcases h with h | ⟨h, k⟩ | ⟨h, k, hs⟩
  · rw [h] at cA
    clear h
    go_enter Tryz.func3, Tryz.ntmps3
    go_wp2_with (go_at_call 4; with_reducible refine (cA _ y).mono ?_; rintro e w1 ⟨rfl, h⟩; have y := y.trans (h.mono y.size))
    go_ret
    exact ⟨rfl, y⟩
  · rw [h] at cA
    rw [k] at cB
    clear h k
    go_enter Tryz.func3, Tryz.ntmps3
    go_wp2_with (first
      | (go_at_call 4; with_reducible refine (cA _ y).mono ?_; rintro e w1 ⟨rfl, h⟩; have y := y.trans (h.mono y.size))
      | (go_at_call 4; with_reducible refine (cB _ y).mono ?_; rintro e w1 ⟨rfl, h⟩; have y := y.trans (h.mono y.size)))
    go_ret
    exact ⟨rfl, y⟩
  · rw [h] at cA
    rw [k] at cB
    have hsz : (100 : Int) < (s.length : Int) := by omega
    clear h k
    go_enter Tryz.func3, Tryz.ntmps3
    go_wp2_with (first
      | (go_at_call 4; with_reducible refine (cA _ y).mono ?_; rintro e w1 ⟨rfl, h⟩; have y := y.trans (h.mono y.size))
      | (go_at_call 4; with_reducible refine (cB _ y).mono ?_; rintro e w1 ⟨rfl, h⟩; have y := y.trans (h.mono y.size)))
    go_ret
    exact ⟨rfl, y⟩

theorem srow_parts {W : World} {ao : Option Addr} {n cap : Nat} {l : List (List UInt8)} (h : SRow W (.slice ao n cap) l) : (ao = none → cap = 0) ∧ ∀ W', Below W.heap.size W W' → ∀ (j : Nat) (t : List UInt8), l[j]? = some t → ∃ b off, ao = some ⟨b, off, none⟩ ∧ b < W'.heap.size ∧ W'.cell? ⟨b, off + j, none⟩ = some (.string ⟨t.toArray⟩) := by
  have h' := h
  obtain ⟨ao', cap', e, _, h3, _⟩ := h'
  cases e
  refine ⟨h3.2, fun W' hb j t hj => ?_⟩
  obtain ⟨ao', cap', e, _, _, h⟩ := h.below hb
  cases e
  exact h j t hj
theorem own_empty (W : World) (B : Nat) (h : B ≤ W.heap.size) : (W.alloc (.cells #[] 9)).ownsRow B 9 1 (.slice (some ⟨W.heap.size, 0, none⟩) 0 0) 0 (([] : List (List UInt8)).map encStr) :=
  ⟨rfl, Or.inr ⟨W.heap.size, 0, #[], rfl, h, World.heap_alloc_new W _, Nat.le_refl _, Nat.zero_le _, rfl, rfl⟩⟩
set_option maxRecDepth 100000 in
set_option maxHeartbeats 16000000 in
theorem tell_ok (a b : List (List UInt8)) (s : List UInt8) (av bv : Value) (w : World) (ha : SRow w av a) (hb : SRow w bv b) (hA : textsF a = true) (hB : textsF b = true) (hs : s.length ≤ 100) (hG : TellG w) :
    Calls Tryz.prog 3 #[av, bv, .string ⟨s.toArray⟩] w fun e w' => e = .returned (.bool true) ∧ Below w.heap.size w w' := by
  obtain ⟨sa, hal⟩ := texts_short hA
  obtain ⟨sb, hbl⟩ := texts_short hB
  have cA := fun W (h : Below w.heap.size w W) => ltexts_any av a W (ha.below h) (fun t ht => by have := sa.2 t ht; omega)
  have cB := fun W (h : Below w.heap.size w W) => ltexts_any bv b W (hb.below h) (fun t ht => by have := sb.2 t ht; omega)
  rw [hA] at cA
  rw [hB] at cB
  obtain ⟨tv, ev, n, htv, cR, cF, cE, hq⟩ := tell_name s w hs hG
  obtain ⟨L, ev1, n1, hL, hLs, cRa, cSa, cEa⟩ := tell_set a av w ha sa hG
  obtain ⟨M, ev2, n2, hM, hMs, cRb, _, _⟩ := tell_set b bv w hb sb hG
  have hts := text_size s
  have hsz : ¬ ((100 : Int) < (s.length : Int)) := by omega
  have hszn : ¬ (100 < s.length) := by omega
  have y := Below.refl w.heap.size w
  have HGs : ∀ W, Below w.heap.size w W → FlagG W := fun W h => (hG.below h).1
  have HL := Lib.hid hLs
  have HM := Lib.hid hMs
  have hq := Lib.hid hq
  clear hA hB hG ha hb sa sb hLs hMs
  go_enter Tryz.func3, Tryz.ntmps3
  go_upto_region 12 with (first
    | (go_at_call 4; with_reducible refine (cA _ y).mono ?_; rintro e w1 ⟨rfl, h⟩; have y := y.trans (h.mono y.size))
    | (go_at_call 4; with_reducible refine (cB _ y).mono ?_; rintro e w1 ⟨rfl, h⟩; have y := y.trans (h.mono y.size))
    | (go_at_call 5; with_reducible refine (cR _ y).mono ?_; rintro e w1 ⟨rfl, h⟩; have y := y.trans (h.mono y.size))
    | (go_at_call 6; with_reducible refine (cF _ y).mono ?_; rintro e w1 ⟨rfl, h⟩; have y := y.trans (h.mono y.size))
    | (go_at_call 7; with_reducible refine (cE _ y).mono ?_; rintro e w1 ⟨rfl, h⟩; have y := y.trans (h.mono y.size); have T1 := trivial)
    | (go_at_call 8; with_reducible refine (cRa _ y).mono ?_; rintro e w2 ⟨wa, wc, rfl, WW, h⟩; have y := y.trans (h.mono y.size))
    | (go_at_call 9; with_reducible refine (cSa _ y).mono ?_; rintro e w3 ⟨xa, xc, rfl, XX, h⟩; have y := y.trans (h.mono y.size); have WW := Lib.hid (WW.out.below h))
    | (go_at_call 7; with_reducible refine (cEa _ y).mono ?_; rintro e w4 ⟨rfl, h⟩; have y := y.trans (h.mono y.size); have WW := Lib.hid (WW.out.below h); have XX := Lib.hid (XX.out.below h))
    | (go_at_call 10; with_reducible refine (same_any _ _ L _ XX.out WW.out).mono ?_; rintro e w5 ⟨rfl, h⟩; have y := y.trans (h.mono y.size); have WW := Lib.hid (WW.out.below h))
    | (go_at_call 8; with_reducible refine (cRb _ y).mono ?_; rintro e w6 ⟨va, vc, rfl, VV, h⟩; have y := y.trans (h.mono y.size); have WW := Lib.hid (WW.out.below h)))
  clear cA cB cR cF cE cRa cSa cEa cRb XX h
  obtain ⟨hWn, hWc⟩ := srow_parts WW.out
  obtain ⟨hVn, hVc⟩ := srow_parts VV.out
  have HWc := Lib.hid hWc
  have HVc := Lib.hid hVc
  have y6 := Below.refl w6.heap.size w6
  have HG6 : ∀ W, Below w6.heap.size w6 W → FlagG W := fun W h => HGs _ (y.trans (h.mono y.size))
  have cOr := fun W (h : Below w6.heap.size w6 W) => or_any _ _ L M W (WW.out.below h) (VV.out.below h) (by omega) (by omega) (HG6 W h)
  have cNot := fun W (h : Below w6.heap.size w6 W) => not_any _ _ L M W (WW.out.below h) (VV.out.below h) (by omega) (by omega)
  have cWo := fun W (h : Below w6.heap.size w6 W) => without_any _ _ L M W (WW.out.below h) (VV.out.below h) (by omega) (by omega)
  have cP := fun W (h : Below w6.heap.size w6 W) => printFl_any _ L W (WW.out.below h) ⟨by omega, fun t ht => by have := HL.out t ht; omega⟩
  have cPr := fun W (h : Below w6.heap.size w6 W) => rprintFl_any _ L W (WW.out.below h) ⟨by omega, fun t ht => by have := HL.out t ht; omega⟩
  have cHa := fun W (h : Below w6.heap.size w6 W) => has_any _ L s W (WW.out.below h) (by omega) (by omega) (HG6 W h)
  have cHo := fun W (h : Below w6.heap.size w6 W) => holds_any _ L tv W (WW.out.below h) (by omega)
  have hLM : ∀ t ∈ L ++ M, t.length ≤ 1000000 := fun t ht => by
    rcases List.mem_append.1 ht with h | h
    · have := HL.out t h; omega
    · have := HM.out t h; omega
  have cOd := fun v W h => ordered_any v (L ++ M) W h (by rw [List.length_append]; omega) hLM
  clear hLM HGs hWc hVc
  go_wp2_with (first
    | (go_at_call 11; with_reducible refine (cOr _ y6).mono ?_; rintro e w7 ⟨O, rfl, HO, h⟩; have y7 := y6.trans (h.mono y6.size); have HO := Lib.hid HO)
    | (at_builtin; go_must (refine wpList_appS rfl _ _ 22 rfl 9 Tryz.underlying22 str_info rfl w7.heap.size (.slice (some ⟨w7.heap.size, 0, none⟩) 0 0) [] _ rfl (own_empty w7 w7.heap.size (Nat.le_refl _)) wa L wc rfl hWn (fun j t hj => HWc.out _ (y7.alloc y7.size _) j t hj) (by simp; omega) (by decide) ?hb ?_)))
  case hb => rw [alloc_size]; omega
  intro v1 w8 o1 g1
  have z8 := ((Below.refl w7.heap.size w7).alloc (Nat.le_refl _) (.cells #[] 9)).grown g1 (by rw [alloc_size]; omega) (fun j hj => by cases hj; exact Nat.le_refl _)
  have y8 := y7.trans (z8.mono y7.size)
  go_wp2_with (at_builtin; go_must (refine wpList_appS rfl _ _ 22 rfl 9 Tryz.underlying22 str_info rfl w7.heap.size v1 L _ rfl o1 va M vc rfl hVn (fun j t hj => HVc.out _ y8 j t hj) (by omega) (by decide) z8.size ?_))
  intro v2 w9 o2 g2
  have z9 := z8.grown g2 z8.size (fun j hj => (o1.lt j hj).1)
  have y9 := y7.trans (z9.mono y7.size)
  have o3 : w9.ownsRow w7.heap.size 9 1 v2 (L ++ M).length ((L ++ M).map encStr) := by rw [List.length_append, List.map_append]; exact o2
  have HO := Lib.hid (HO.out.below z9)
  have cOd := cOd v2 w9 (srow_owns o3)
  have T3 := trivial
  clear o1 o2 o3 g1 g2 z8 z9
  go_upto_if 110 with (first
    | (go_at_call 12; with_reducible refine cOd.mono ?_; rintro e w10 ⟨P, rfl, HP, h⟩; have y10 := y9.trans (h.mono y9.size); have HO := Lib.hid (HO.out.below h); have HP := Lib.hid HP)
    | (go_at_call 10; with_reducible refine (same_any _ _ (canonF (L ++ M)) _ HO.out HP.out).mono ?_; rintro e w11 ⟨rfl, h⟩; have y11 := y10.trans (h.mono y10.size); have T4 := trivial)
    | (go_at_call 13; with_reducible refine (cNot _ y11).mono ?_; rintro e w12 ⟨N, rfl, HN, h⟩; have y12 := y11.trans (h.mono y11.size); have HN := Lib.hid HN)
    | (go_at_call 14; with_reducible refine (cWo _ y12).mono ?_; rintro e w13 ⟨U, rfl, HU, h⟩; have y13 := y12.trans (h.mono y12.size); have HN := Lib.hid (HN.out.below h); have HU := Lib.hid HU)
    | (go_at_call 10; with_reducible refine (same_any _ _ (notF L M) _ HN.out HU.out).mono ?_; rintro e w14 ⟨rfl, h⟩; have y14 := y13.trans (h.mono y13.size))
    | (go_at_call 15; with_reducible refine (cP _ y14).mono ?_; rintro e w15 ⟨rfl, h⟩; have y15 := y14.trans (h.mono y14.size))
    | (go_at_call 16; with_reducible refine (cPr _ y15).mono ?_; rintro e w16 ⟨rfl, h⟩; have y16 := y15.trans (h.mono y15.size)))
  have yF := y.trans (y16.mono y.size)
  clear cOd cNot cWo cP cPr HO HP HN HU cOr
  rcases hq.out with ⟨rfl, hf⟩ | ⟨hne, hf⟩
  · simp only [hf] at cHa
    clear hq hf cHo
    go_wp2_with (go_at_call 17; with_reducible refine (cHa _ y16).mono ?_; rintro e w17 ⟨rfl, h⟩; have y17 := yF.trans (h.mono yF.size))
    go_ret
    exact ⟨rfl, y17⟩
  · simp only [hf] at cHa
    have he1 : (⟨tv.toArray⟩ : ByteArray).toList.isEmpty = false := by rw [w_empty]; simpa using hne
    have he2 : tv.isEmpty = false := by simpa using hne
    have he3 : (tv == []) = false := by simpa using hne
    generalize decide (tv ∈ L) = D at cHa cHo
    clear hq hf
    go_wp2_with (first
      | (go_at_call 17; with_reducible refine (cHa _ y16).mono ?_; rintro e w17 ⟨rfl, h⟩; have y17 := yF.trans (h.mono yF.size); have z17 := y16.trans (h.mono y16.size))
      | (go_at_call 18; with_reducible refine (cHo _ z17).mono ?_; rintro e w18 ⟨rfl, hw⟩; subst hw))
    go_ret
    exact ⟨by simp, y17⟩

theorem tell_any (a b : List (List UInt8)) (s : List UInt8) (av bv : Value) (w : World) (ha : SRow w av a) (hb : SRow w bv b) (hat : ∀ t ∈ a, t.length ≤ 9223372036854775807) (hbt : ∀ t ∈ b, t.length ≤ 9223372036854775807) (hsl : s.length ≤ 9223372036854775807) (hG : TellG w) :
    Calls Tryz.prog 3 #[av, bv, .string ⟨s.toArray⟩] w fun e w' => e = .returned (.bool true) ∧ Below w.heap.size w w' := by
  cases hA : textsF a with
  | false => exact tell_long a b s av bv w ha hb hat hbt hsl (Or.inl hA)
  | true =>
    cases hB : textsF b with
    | false => exact tell_long a b s av bv w ha hb hat hbt hsl (Or.inr (Or.inl ⟨hA, hB⟩))
    | true =>
      rcases Nat.lt_or_ge 100 s.length with h | h
      · exact tell_long a b s av bv w ha hb hat hbt hsl (Or.inr (Or.inr ⟨hA, hB, h⟩))
      · exact tell_ok a b s av bv w ha hb hA hB h hG
end Go.Proofs.YtiggekmhojlegaaGreatDoor
