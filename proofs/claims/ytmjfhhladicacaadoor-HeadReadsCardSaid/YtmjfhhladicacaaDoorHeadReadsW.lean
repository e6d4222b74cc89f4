/- The walk over letterboxlaw.HeadReads: it returns true, whatever it is given. Conditions: bytealg.MaxLen, letterboxref.Fine and errors.errorType lie as the program's text lays them. -/
import Derived.Test.YtmjfhhladicacaaDoorHeadL
import Derived.Test.YtmjfhhladicacaaDoorHeadBackW
import Derived.Test.YtmjfhhladicacaaDoorTellAt
namespace Go.Proofs.YtmjfhhladicacaaDoor
open Go.RowKit Go.Shelf

structure ReadG (w : World) : Prop where
  max : MaxL w
  fine : FineG w
  err : ErrTy w
set_option maxRecDepth 100000 in
set_option maxHeartbeats 2000000 in
theorem sameFields_any (u v : Value) (l : List Fld) (w : World) (hu : FldRow w u l) (hv : FldRow w v l) (hl : l.length ≤ 100000) :
    Calls Tryd.prog 25 #[u, v] w fun e w' => e = .returned (.bool true) ∧ Below w.heap.size w w' := by
  obtain ⟨ao, cap, rfl, hao⟩ := row_open hu
  obtain ⟨bo, cap', rfl, hbo⟩ := row_open hv
  have HA := Lib.hid hao
  have HB := Lib.hid hbo
  clear hao hbo
  go_enter Tryd.func25, Tryd.ntmps25
  go_wp2_with fail
  go_loopg [5] l.length (fun g s5 wr => ∃ (k : Nat), k + g = l.length ∧ s5 = .int .i64 k ∧ Below w.heap.size w wr)
  case atStart => exact ⟨0, by omega, rfl, Below.refl _ _⟩
  case round =>
    obtain ⟨k, hk, rfl, hbr⟩ := hrel
    by_cases hlt : k < l.length
    · obtain ⟨g', rfl⟩ : ∃ g', gk = g' + 1 := ⟨gk - 1, by omega⟩
      obtain ⟨f, hf⟩ : ∃ f, l[k]? = some f := ⟨l[k], List.getElem?_eq_getElem hlt⟩
      obtain ⟨b, off, rfl, hb, c1, c2⟩ := HA.out k f hf
      obtain ⟨b', off', rfl, hb', c3, c4⟩ := HB.out k f hf
      have d1 := (hbr.cell (p := ⟨b, off + k * 2, none⟩) hb).trans c1
      have d2 := (hbr.cell (p := ⟨b, off + k * 2 + 1, none⟩) hb).trans c2
      have d3 := (hbr.cell (p := ⟨b', off' + k * 2, none⟩) hb').trans c3
      have d4 := (hbr.cell (p := ⟨b', off' + k * 2 + 1, none⟩) hb').trans c4
      clear c1 c2 c3 c4 hf
      go_wp2_with fail
      go_region
      go_wp2_with fail
      go_roundg g'
      case measure => omega
      case rel => exact ⟨k + 1, by omega, by go_num, hbr.drew⟩
    · go_wp2_with fail
      go_ret
      exact ⟨rfl, hbr⟩

theorem lens_len {l : List Fld} (h : Lens l) : l.length ≤ 100000 := h.1
def resL (R : (Nat × Nat) ⊕ List Fld) : List Fld := match R with | .inl _ => [] | .inr l => l
def resF (R : (Nat × Nat) ⊕ List Fld) : Int × Int := match R with | .inl x => (x.1, x.2) | .inr _ => (0, -1)
def ErrIs (w : World) (E : Value) (R : (Nat × Nat) ⊕ List Fld) : Prop :=
  match R with
  | .inl x => ∃ g, E = .iface 61 (.pointer (some ⟨g, 0, none⟩)) ∧ w.heap[g]? = some (.cells #[.int .i64 (x.1 : Int), .int .i64 (x.2 : Int)] 62 (0, 0))
  | .inr _ => E = .nilIface
theorem ErrIs.below {w w' : World} {E : Value} {R : (Nat × Nat) ⊕ List Fld} (h : ErrIs w E R) (hb : Below w.heap.size w w') : ErrIs w' E R := by
  cases R with
  | inl x => obtain ⟨g, h1, h2⟩ := h; exact ⟨g, h1, below_same hb h2⟩
  | inr l => exact h
theorem fields_gen (S : List UInt8) (w : World) (hs : S.length ≤ 9000) (hM : MaxL w) :
    Calls Tryd.prog 8 #[.string ⟨S.toArray⟩] w fun e w' => ∃ ao cap E, e = .returned (.tuple #[.slice ao (resL (fieldsL S)).length cap, E]) ∧ FldRow w' (.slice ao (resL (fieldsL S)).length cap) (resL (fieldsL S)) ∧ ErrIs w' E (fieldsL S) ∧ Below w.heap.size w w' := by
  refine (fields_any S w hs hM).mono ?_
  cases fieldsL S with
  | inl x =>
    rintro e w' ⟨v, rfl, ⟨g, rfl, h1, h2⟩, h3⟩
    exact ⟨none, 0, _, rfl, Or.inl ⟨rfl, rfl⟩, ⟨g, rfl, h2⟩, h3⟩
  | inr l =>
    rintro e w' ⟨v, rfl, ⟨ao, cap, rfl, h1, h2⟩, h3⟩
    exact ⟨ao, cap, _, rfl, h1, rfl, h3⟩
theorem rfields_gen (S : List UInt8) (w : World) (hs : S.length ≤ 9000) (hM : MaxL w) (hF : FineG w) :
    Calls Tryd.prog 23 #[.string ⟨S.toArray⟩] w fun e w' => ∃ ao cap, e = .returned (.tuple #[.slice ao (resL (fieldsL S)).length cap, .agg #[.int .i64 (resF (fieldsL S)).1, .int .i64 (resF (fieldsL S)).2]]) ∧ FldRow w' (.slice ao (resL (fieldsL S)).length cap) (resL (fieldsL S)) ∧ Lens (resL (fieldsL S)) ∧ Below w.heap.size w w' := by
  refine (rfields_any S w hs hM hF).mono ?_
  cases fieldsL S with
  | inl x =>
    rintro e w' ⟨v, rfl, h1, h3⟩
    exact ⟨none, 0, by rw [h1]; rfl, Or.inl ⟨rfl, rfl⟩, ⟨by simp [resL], by intro f hf; simp [resL] at hf⟩, h3⟩
  | inr l =>
    rintro e w' ⟨v, rfl, ⟨ao, cap, rfl, h1, h2⟩, h3⟩
    exact ⟨ao, cap, rfl, h1, h2, h3⟩
theorem is_gen (E : Value) (R : (Nat × Nat) ⊕ List Fld) (w : World) (hE : ErrTy w) (h : ErrIs w E R) :
    Calls Tryd.prog 24 #[E, .agg #[.int .i64 (resF R).1, .int .i64 (resF R).2]] w fun e w' => e = .returned (.bool true) ∧ Below w.heap.size w w' := by
  cases R with
  | inl x =>
    obtain ⟨g, rfl, h2⟩ := h
    exact is_at x.1 x.2 g w hE h2
  | inr l =>
    obtain rfl : E = .nilIface := h
    exact is_nil0 w
theorem rowAt_two (W : World) (x y : Value) (t : TypeId) : RowAt (W.alloc (.cells #[x, y] t)) (.slice (some ⟨W.heap.size, 0, none⟩) 2 2) [x, y] :=
  Or.inr ⟨W.heap.size, 0, 2, rfl, by simp, fun j u hj => by
    match j, hj with
    | 0, hj => simp at hj; subst hj; simp
    | 1, hj => simp at hj; subst hj; simp⟩
theorem only_two (v : Value) (l : List Fld) (n m : List UInt8) (W : World) (hv : FldRow W v l) (hl : Lens l) (hn : n.length ≤ 1000000) (hm : m.length ≤ 1000000) :
    Calls Tryd.prog 12 #[v, .slice (some ⟨W.heap.size, 0, none⟩) 2 2] (W.alloc (.cells #[.string ⟨n.toArray⟩, .string ⟨m.toArray⟩] 9)) fun e w' => ∃ r, e = .returned r ∧ FldRow w' r (onlyF l [n, m]) ∧ Below W.heap.size W w' := by
  have hA := (Below.refl W.heap.size W).alloc (Nat.le_refl _) (.cells #[.string ⟨n.toArray⟩, .string ⟨m.toArray⟩] 9)
  refine (only_any v _ l [n, m] _ (hv.below hA) hl (rowAt_two W _ _ _) ⟨by simp, by intro x hx; simp at hx; rcases hx with rfl | rfl <;> assumption⟩).mono ?_
  rintro e w' ⟨r, rfl, h1, _, h2⟩
  exact ⟨r, rfl, h1, hA.trans (h2.mono hA.size)⟩
theorem ronly_two (v : Value) (l : List Fld) (n m : List UInt8) (W : World) (hv : FldRow W v l) (hl : Lens l) (hn : n.length ≤ 1000000) (hm : m.length ≤ 1000000) :
    Calls Tryd.prog 27 #[v, .slice (some ⟨W.heap.size, 0, none⟩) 2 2] (W.alloc (.cells #[.string ⟨n.toArray⟩, .string ⟨m.toArray⟩] 9)) fun e w' => ∃ r, e = .returned r ∧ FldRow w' r (onlyF l [n, m]) ∧ Below W.heap.size W w' := by
  have hA := (Below.refl W.heap.size W).alloc (Nat.le_refl _) (.cells #[.string ⟨n.toArray⟩, .string ⟨m.toArray⟩] 9)
  refine (ronly_any v _ l [n, m] _ (hv.below hA) hl (rowAt_two W _ _ _) ⟨by simp, by intro x hx; simp at hx; rcases hx with rfl | rfl <;> assumption⟩).mono ?_
  rintro e w' ⟨r, rfl, h1, _, h2⟩
  exact ⟨r, rfl, h1, hA.trans (h2.mono hA.size)⟩

set_option maxRecDepth 100000 in
set_option maxHeartbeats 8000000 in
theorem headReads_any (s n v : List UInt8) (w : World) (hs : s.length ≤ 9223372036854775807) (hn : n.length ≤ 9223372036854775807) (hv : v.length ≤ 9223372036854775807) (hG : ReadG w) :
    Calls Tryd.prog 5 #[.string ⟨s.toArray⟩, .string ⟨n.toArray⟩, .string ⟨v.toArray⟩] w fun e w' => e = .returned (.bool true) ∧ Below w.heap.size w w' := by
  have ts := text_size s
  have tn := text_size n
  have tv := text_size v
  by_cases h1500 : (1500 : Int) < (s.length : Int)
  · go_enter Tryd.func5, Tryd.ntmps5
    go_wp2_with fail
    go_ret
    exact ⟨rfl, Below.refl _ _⟩
  by_cases h100 : (100 : Int) < (n.length : Int)
  · go_enter Tryd.func5, Tryd.ntmps5
    go_wp2_with fail
    go_ret
    exact ⟨rfl, Below.refl _ _⟩
  by_cases h300 : (300 : Int) < (v.length : Int)
  · go_enter Tryd.func5, Tryd.ntmps5
    go_wp2_with fail
    go_ret
    exact ⟨rfl, Below.refl _ _⟩
  have y := Below.refl w.heap.size w
  have cRS := fun W hM => rsplit_any s W (by omega) hM
  have cHS := fun W hM => splitHd_any s W (by omega) hM
  have cRF := fun W hM hF => rfields_gen s W (by omega) hM hF
  have cHF := fun W hM => fields_gen s W (by omega) hM
  have HM : ∀ W, Below w.heap.size w W → MaxL W := fun W h => hG.max.below h
  have HF : ∀ W, Below w.heap.size w W → FineG W := fun W h => hG.fine.below h
  have HE : ∀ W, Below w.heap.size w W → ErrTy W := fun W h => errTy_below hG.err h
  have cI := fun E W hE h => is_gen E (fieldsL s) W hE h
  generalize resF (fieldsL s) = F at cI cRF
  obtain ⟨fa, fb⟩ := F
  simp only at cI cRF
  generalize fieldsL s = R at cI cRF cHF
  generalize hL : resL R = L at cRF cHF
  clear hL
  have cSm1 := fun W => small_any ⟨s.toArray⟩ W (by rw [text_size]; omega)
  have cSm2 := fun W => rsmall_any s W (by omega)
  have cGr1 := fun W => great_any ⟨s.toArray⟩ W (by rw [text_size]; omega)
  have cGr2 := fun W => rgreat_any s W (by omega)
  simp only [List.toList_toArray] at cSm1 cGr1
  have cP1 := fun W hM => param_any v n W (by omega) (by omega) hM
  have cP2 := fun W hM => rparam_any v n W (by omega) (by omega) hM
  have hn6 : n.length ≤ 1000000 := by omega
  have h2 : ([116, 111] : List UInt8).length ≤ 1000000 := by decide
  have hLo : (onlyF L [n, [116, 111]]).length ≤ L.length := List.length_filter_le _ _
  generalize splitHd s = H at cRS cHS
  obtain ⟨H1, H2⟩ := H
  simp only at cRS cHS
  generalize (paramL v n).getD [] = P1 at cP1 cP2
  generalize (paramL v n).isSome = P2 at cP1 cP2
  generalize smallL s = Sm at cSm1 cSm2
  generalize greatL s = Gr at cGr1 cGr2
  go_enter Tryd.func5, Tryd.ntmps5
  go_wp2_with (first
    | (go_at_call 21; with_reducible refine (cRS _ (HM _ y)).mono ?_; rintro e w1 ⟨rfl, h⟩; have y := y.trans (h.mono y.size))
    | (go_at_call 22; with_reducible refine (cHS _ (HM _ y)).mono ?_; rintro e w2 ⟨rfl, h⟩; have y := y.trans (h.mono y.size))
    | (go_at_call 23; with_reducible refine (cRF _ (HM _ y) (HF _ y)).mono ?_; rintro e w3 ⟨ao, cap, rfl, hr1, hL, h⟩; have hL1 := lens_len hL; have y := y.trans (h.mono y.size); have z := Below.refl w3.heap.size w3; have ya := y.alloc y.size (.cells #[.int .i64 fa, .int .i64 fb] 53); have za := z.alloc z.size (.cells #[.int .i64 fa, .int .i64 fb] 53); have hfa := World.heap_alloc_new w3 (.cells #[.int .i64 fa, .int .i64 fb] 53))
    | (go_at_call 8; with_reducible refine (cHF _ (HM _ ya)).mono ?_; rintro e w4 ⟨ao2, cap2, E, rfl, hr2, he, h⟩; have y := ya.trans (h.mono ya.size); have hr1 := hr1.below (za.trans (h.mono za.size)); have hfa := below_same h hfa; have f0 := (two_cells hfa).1; have f1 := (two_cells hfa).2)
    | (go_at_call 24; with_reducible refine (cI _ _ (HE _ y) he).mono ?_; rintro e w5 ⟨rfl, h⟩; have y := y.trans (h.mono y.size); have hr1 := hr1.below h; have hr2 := hr2.below h)
    | (go_at_call 25; with_reducible refine (sameFields_any _ _ L _ hr2 hr1 hL1).mono ?_; rintro e w6 ⟨rfl, h⟩; have y := y.trans (h.mono y.size); have hr1 := hr1.below h; have hr2 := hr2.below h)
    | (go_at_call 26; with_reducible refine (rget_any _ L n _ hr1 hL hn6).mono ?_; rintro e w7 ⟨rfl, h⟩; have y := y.trans (h.mono y.size); have hr1 := hr1.below h; have hr2 := hr2.below h)
    | (go_at_call 9; with_reducible refine (get_any _ L n _ hr2 hL hn6).mono ?_; rintro e w8 ⟨rfl, h⟩; have y := y.trans (h.mono y.size); have hr1 := hr1.below h; have hr2 := hr2.below h)
    | (go_at_call 12; with_reducible refine (only_two _ L n [116, 111] _ hr2 hL hn6 h2).mono ?_; rintro e w9 ⟨r1, rfl, hq1, h⟩; have y := y.trans (h.mono y.size); have hr1 := hr1.below h; have hr2 := hr2.below h)
    | (go_at_call 27; with_reducible refine (ronly_two _ L n [116, 111] _ hr1 hL hn6 h2).mono ?_; rintro e w10 ⟨r2, rfl, hq2, h⟩; have y := y.trans (h.mono y.size); have hr1 := hr1.below h; have hr2 := hr2.below h; have hq1 := hq1.below h)
    | (go_at_call 25; with_reducible refine (sameFields_any _ _ (onlyF L [n, [116, 111]]) _ hq1 hq2 (Nat.le_trans hLo hL1)).mono ?_; rintro e w11 ⟨rfl, h⟩; have y := y.trans (h.mono y.size); have hr1 := hr1.below h; have hr2 := hr2.below h)
    | (go_at_call 28; with_reducible refine (print_any _ L _ hr2 hL).mono ?_; rintro e w12 ⟨rfl, h⟩; have y := y.trans (h.mono y.size); have hr1 := hr1.below h)
    | (go_at_call 29; with_reducible refine (rprint_any _ L _ hr1 hL).mono ?_; rintro e w13 ⟨rfl, h⟩; have y := y.trans (h.mono y.size))
    | (go_at_call 30; with_reducible refine (cP2 _ (HM _ y)).mono ?_; rintro e w14 ⟨rfl, h⟩; have y := y.trans (h.mono y.size))
    | (go_at_call 14; with_reducible refine (cP1 _ (HM _ y)).mono ?_; rintro e w15 ⟨rfl, h⟩; have y := y.trans (h.mono y.size))
    | (go_at_call 10; with_reducible refine (cSm1 _).mono ?_; rintro e w16 ⟨rfl, h⟩; have y := y.trans (h.mono y.size))
    | (go_at_call 31; with_reducible refine (cSm2 _).mono ?_; rintro e w17 ⟨rfl, h⟩; have y := y.trans (h.mono y.size))
    | (go_at_call 11; with_reducible refine (cGr1 _).mono ?_; rintro e w18 ⟨rfl, h⟩; have y := y.trans (h.mono y.size))
    | (go_at_call 32; with_reducible refine (cGr2 _).mono ?_; rintro e w19 ⟨rfl, h⟩; have y := y.trans (h.mono y.size)))
  go_ret
  exact ⟨rfl, y⟩
end Go.Proofs.YtmjfhhladicacaaDoor
