/- The walk over seq.Parse: it returns the set that is read, or an error. Conditions: strconv's table of powers and its two errors, and bytealg.MaxLen, lie as the program's text lays them. -/
import Derived.Test.YtcahhnjponeeeaaGreatDoorPkSeqC
namespace Go.Proofs.YtcahhnjponeeeaaGreatDoor
open Go.RowKit Go.Shelf Go.Sort
attribute [local go_sem] Oper.semAt_some
set_option linter.unusedSimpArgs false
def MaxG (w : World) : Prop := ∃ m, w.cell? ⟨1, 0, none⟩ = some (.int .i64 m)
theorem MaxG.below {w w' : World} (h : MaxG w) (hb : Below w.heap.size w w') : MaxG w' := by
  obtain ⟨m, hm⟩ := h
  exact ⟨m, (hb.cell (p := ⟨_, 0, none⟩) (World.block_lt_of_cell? _ _ hm)).trans hm⟩
/-- what Parse brings -/
def ParR (S : Txt) (w : World) (e : Ending) (w' : World) : Prop := match parseS S with
  | .error n => e = .returned (.tuple #[.slice none 0 0, .iface 33 (.int .i64 (n : Int))]) ∧ Below w.heap.size w w'
  | .ok l => ∃ v, e = .returned (.tuple #[v, .nilIface]) ∧ w'.ownsRow w.heap.size 100 2 v l.length (rgCells l) ∧ l.length ≤ 20 ∧ Below w.heap.size w w'
theorem owned_val {W : World} {base n : Nat} {v : Value} {e : TypeId} {xs : List Value} (h : W.ownsRow base e 2 v n xs) : ∃ a c, v = .slice a n c := by
  rcases h.2 with ⟨rfl, h0⟩ | ⟨g, cap, cur, rfl, _⟩
  · exact ⟨none, 0, by rw [h0]⟩
  · exact ⟨_, cap, rfl⟩
/-- an error has been laid -/
structure BadI (N : Nat) (w0 : World) (n : Nat) (W : World) : Prop where
  r1 : W.heap[N]? = some (.cells #[.slice none 0 0] 29 (0, 0))
  r2 : W.heap[N + 1]? = some (.cells #[.iface 33 (.int .i64 (n : Int))] 37 (0, 0))
  low : Below N w0 W
  siz : N + 6 ≤ W.heap.size
theorem ParI.bad {N : Nat} {w0 W : World} {acc : List Rg} {ov : Value} (h : ParI N w0 acc ov W) (n : Nat) : BadI N w0 n ((W.setCell ⟨N, 0, none⟩ (.slice none 0 0)).setCell ⟨N + 1, 0, none⟩ (.iface 33 (.int .i64 (n : Int)))) :=
  ⟨setCell_same (set1 h.r1) (by simp), set1 (setCell_same h.r2 (by simp)), (h.low.setCell (p := ⟨N, 0, none⟩) (Nat.le_refl _) _).setCell (p := ⟨N + 1, 0, none⟩) (by simp) _, by rw [set_size, set_size]; exact h.siz⟩
theorem bad_steady (N : Nat) (w0 : World) : Steady (N + 6) (N + 3) (fun s W => ∃ n, setsF s [] = .error n ∧ BadI N w0 n W) := by
  refine ⟨?_, ?_, ?_⟩
  · rintro s W o ⟨n, h1, h⟩
    exact ⟨n, h1, alloc_same h.r1, alloc_same h.r2, h.low.alloc (by have := h.siz; omega) o, by rw [alloc_size]; have := h.siz; omega⟩
  · rintro s W l o o' hl ho hc ⟨n, h1, h⟩
    exact ⟨n, h1, (World.putObj_heap_other (by omega)).trans h.r1, (World.putObj_heap_other (by omega)).trans h.r2, h.low.grown (grownBy_putObj' W l o') (by have := h.siz; omega) (fun k e => by cases e; omega), by rw [World.putObj_size]; exact h.siz⟩
  · rintro s W v ⟨n, h1, h⟩
    exact ⟨n, h1, setCell_same h.r1 (by simp), setCell_same h.r2 (by simp), h.low.setCell (p := ⟨N + 3, 0, none⟩) (by simp) v, by rw [set_size]; exact h.siz⟩
theorem par_steady (N : Nat) (w0 : World) : Steady (N + 6) (N + 3) (fun s W => ∃ acc ov, setsF s [] = .ok acc ∧ ParI N w0 acc ov W) := by
  refine ⟨?_, ?_, ?_⟩
  · rintro s W o ⟨acc, ov, h1, h⟩; exact ⟨acc, ov, h1, h.lay o⟩
  · rintro s W l o o' hl ho hc ⟨acc, ov, h1, h⟩; exact ⟨acc, ov, h1, h.put o' hl ho hc⟩
  · rintro s W v ⟨acc, ov, h1, h⟩; exact ⟨acc, ov, h1, h.set v⟩
theorem num_yes {s : Txt} {x : Int} (h : numS s = some x) (hs : s.length ≤ 2000000) (W : World) (hG : StrG W) : Calls Tryz.prog 129 #[.string ⟨s.toArray⟩] W fun e w' => e = .returned (.tuple #[.int .i64 x, .bool true]) ∧ Below W.heap.size W w' :=
  (number_any s W hs hG).mono fun e w' ⟨v, h1, h2, h3⟩ => ⟨by rw [h1, h, h2 x h]; rfl, h3⟩
theorem num_no {s : Txt} (h : numS s = none) (hs : s.length ≤ 2000000) (W : World) (hG : StrG W) : Calls Tryz.prog 129 #[.string ⟨s.toArray⟩] W fun e w' => ∃ v : Int, e = .returned (.tuple #[.int .i64 v, .bool false]) ∧ Below W.heap.size W w' :=
  (number_any s W hs hG).mono fun e w' ⟨v, h1, h2, h3⟩ => ⟨v, by rw [h1, h]; rfl, h3⟩
theorem cutS_any (t : Txt) (W : World) (ht : t.length ≤ 2000000) (hM : MaxG W) : Calls Tryz.prog 52 #[.string ⟨t.toArray⟩, .string ⟨#[58]⟩] W fun e w' => e = .returned (.tuple #[.string ⟨(Lib.cut t [58]).1.toArray⟩, .string ⟨(Lib.cut t [58]).2.1.toArray⟩, .bool (Lib.cut t [58]).2.2]) ∧ Below W.heap.size W w' := by
  obtain ⟨m, hm⟩ := hM
  refine (Tryz.strings_Cut ⟨t.toArray⟩ ⟨#[58]⟩ m W (by rw [text_size]; omega) hm).mono ?_
  rintro e w' ⟨h1, n, rfl⟩
  exact ⟨h1, ⟨rfl, rfl, rfl, Nat.le_refl _, fun _ _ => rfl⟩⟩
theorem par_cells {N : Nat} {w0 W : World} {acc : List Rg} {ov : Value} (h : ParI N w0 acc ov W) : W.frozen? ⟨N, 0, none⟩ = false ∧ W.frozen? ⟨N + 1, 0, none⟩ = false ∧ W.frozen? ⟨N + 2, 0, none⟩ = false ∧ W.cell? ⟨N + 2, 0, none⟩ = some ov ∧ W.cell? ⟨N, 0, none⟩ = some (.slice none 0 0) ∧ W.cell? ⟨N + 1, 0, none⟩ = some .nilIface :=
  ⟨Lib.frozen_of_heap h.r1 0, Lib.frozen_of_heap h.r2 0, Lib.frozen_of_heap h.out 0, by rw [Lib.cell_of_heap h.out]; rfl, by rw [Lib.cell_of_heap h.r1]; rfl, by rw [Lib.cell_of_heap h.r2]; rfl⟩
abbrev parW (w : World) : World := ((w.alloc (.cells #[.slice none 0 0] 29)).alloc (.cells #[.nilIface] 37)).alloc (.cells #[.slice none 0 0] 29)
theorem parW_at (w : World) (S : Txt) : ParI w.heap.size w [] (.slice none 0 0) (splitW (parW w) S) ∧ (parW w).heap.size = w.heap.size + 3 ∧ (splitW (parW w) S).heap.size = w.heap.size + 6 := by
  have s1 := alloc_size w (.cells #[.slice none 0 0] 29)
  have s2 := alloc_size (w.alloc (.cells #[.slice none 0 0] 29)) (.cells #[.nilIface] 37)
  have s3 := alloc_size ((w.alloc (.cells #[.slice none 0 0] 29)).alloc (.cells #[.nilIface] 37)) (.cells #[.slice none 0 0] 29)
  have h1 := World.heap_alloc_new w (.cells #[.slice none 0 0] 29)
  have h2 := World.heap_alloc_new (w.alloc (.cells #[.slice none 0 0] 29)) (.cells #[.nilIface] 37)
  have h3 := World.heap_alloc_new ((w.alloc (.cells #[.slice none 0 0] 29)).alloc (.cells #[.nilIface] 37)) (.cells #[.slice none 0 0] 29)
  rw [s1] at h2
  rw [s2, s1] at h3
  have z3 : (parW w).heap.size = w.heap.size + 3 := by show (((w.alloc _).alloc _).alloc _).heap.size = _; rw [s3, s2, s1]
  have p1 := alloc_same (x := .cells #[.slice none 0 0] 29) (alloc_same (x := .cells #[.nilIface] 37) h1)
  have p2 := alloc_same (x := .cells #[.slice none 0 0] 29) h2
  have yb : Below w.heap.size w (parW w) := (((Below.refl _ w).alloc (Nat.le_refl _) _).alloc (by rw [s1]; omega) _).alloc (by rw [s2, s1]; omega) _
  have q1 := World.heap_alloc_new (parW w) (.cells #[.string ⟨S.toArray⟩] 9)
  have t1 := alloc_size (parW w) (.cells #[.string ⟨S.toArray⟩] 9)
  have q2 := World.heap_alloc_new ((parW w).alloc (.cells #[.string ⟨S.toArray⟩] 9)) (.cells #[.string ⟨#[44]⟩] 9)
  have t2 := alloc_size ((parW w).alloc (.cells #[.string ⟨S.toArray⟩] 9)) (.cells #[.string ⟨#[44]⟩] 9)
  have q3 := World.heap_alloc_new (((parW w).alloc (.cells #[.string ⟨S.toArray⟩] 9)).alloc (.cells #[.string ⟨#[44]⟩] 9)) (.cells #[.int .i64 0] 3)
  have t3 := alloc_size (((parW w).alloc (.cells #[.string ⟨S.toArray⟩] 9)).alloc (.cells #[.string ⟨#[44]⟩] 9)) (.cells #[.int .i64 0] 3)
  rw [z3] at q1 t1
  rw [t1] at q2 t2
  rw [t2] at q3 t3
  have yz : Below (parW w).heap.size (parW w) (splitW (parW w) S) := (((Below.refl _ (parW w)).alloc (Nat.le_refl _) _).alloc (by rw [t1]; omega) _).alloc (by rw [t2]; omega) _
  refine ⟨⟨below_same yz p1, below_same yz p2, below_same yz h3, World.ownsRow_nil _ _ _ _, yb.trans (yz.mono (by omega)), ⟨_, alloc_same (alloc_same q1)⟩, ⟨_, alloc_same q2⟩, ⟨_, q3⟩, Nat.zero_le _, ?_⟩, z3, ?_⟩
  · show _ ≤ (((_ : World).alloc _).alloc _).heap.size; rw [t3]; omega
  · exact t3
theorem par_kept {N M : Nat} {W W' : World} (hM : M < N) (h : ∀ k, k < N ∨ N + 3 ≤ k ∧ k ≤ N + 5 → W'.heap[k]? = W.heap[k]?) : ∀ k, KeptT (N + 3) M k → W'.heap[k]? = W.heap[k]? := by
  rintro k (rfl | ⟨h1, h2⟩)
  · exact h _ (Or.inl hM)
  · exact h _ (Or.inr ⟨h1, by omega⟩)
set_option maxRecDepth 100000 in
set_option maxHeartbeats 16000000 in
theorem parse_any (S : Txt) (w : World) (hS : S.length ≤ 2000000) (hG : StrG w) (hM : MaxG w) : Calls Tryz.prog 104 #[.string ⟨S.toArray⟩] w (ParR S w) := by
  obtain ⟨hP0, hz3, hz6⟩ := parW_at w S
  have hML : 1 < w.heap.size := by obtain ⟨m, hm⟩ := hM; exact World.block_lt_of_cell? _ _ hm
  have hSp := splitW_at (parW w) S 1 (hM.below (((((Below.refl _ w).alloc (Nat.le_refl _) (.cells #[.slice none 0 0] 29)).alloc (by simp) (.cells #[.nilIface] 37)).alloc (by simp; omega) (.cells #[.slice none 0 0] 29))))
  rw [hz3] at hSp
  obtain ⟨N, hN⟩ : ∃ N, w.heap.size = N := ⟨_, rfl⟩
  have HGS : Hid (∀ W, Below N w W → StrG W) := Lib.hid (fun W h => hG.below (by rw [hN]; exact h))
  have HGM : Hid (∀ W, Below N w W → MaxG W) := Lib.hid (fun W h => hM.below (by rw [hN]; exact h))
  have cS := splitSeq_any S (parW w)
  rw [hz3] at cS
  obtain ⟨w6, hw6⟩ : ∃ w6, splitW (parW w) S = w6 := ⟨_, rfl⟩
  rw [hw6] at cS hP0 hz6 hSp
  rw [hN] at hP0 hz6 hSp hML cS
  have HPar : Hid (∀ e w', ParR S w e w' ↔ match parseS S with
    | .error n => e = .returned (.tuple #[.slice none 0 0, .iface 33 (.int .i64 (n : Int))]) ∧ Below N w w'
    | .ok l => ∃ v, e = .returned (.tuple #[v, .nilIface]) ∧ w'.ownsRow N 100 2 v l.length (rgCells l) ∧ l.length ≤ 20 ∧ Below N w w') := Lib.hid (fun e w' => by rw [← hN]; exact Iff.rfl)
  have HP0 := Lib.hid hP0
  have HSp := Lib.hid hSp
  clear hP0 hSp hw6 hG hM
  refine (callsIn_wide (n := 5)).1 ?_
  refine callsIn_of_wp_marks Tryz.func104 rfl trivial ?_ rfl
  simp only [Tryz.ntmps104, List.size_toArray, List.length_cons, List.length_nil, Nat.reduceAdd, Nat.reduceSub, Array.replicate_succ, Array.replicate_zero, List.push_toArray, List.append_toArray, List.nil_append, List.cons_append]
  gi_wp2_with (refine ⟨trivial, ?_⟩; gi_at_call 128; (with_reducible refine (callsIn_wide.2 cS).mono ?_); rintro e w1 ⟨rfl, hw⟩; rw [hw]; clear hw)
  refine wp_range (gf := 157) (B := N + 3) (T := KeptT (N + 3) 1) (lb := #[.pointer (some ⟨N + 3 + 1, 0, none⟩), .pointer (some ⟨N + 3, 0, none⟩), .pointer (some ⟨N + 3 + 2, 0, none⟩)]) (xs := commas S) rfl (enters_of Tryz.func157 (by kernel_rfl) rfl)
    (by rintro k (rfl | ⟨_, h⟩) <;> omega) (by rw [hz6]; exact split1_any S (N + 3) (N + 6) w6 hS HSp.out (by omega) (by omega))
    (fun s W => ∃ acc ov, setsF s [] = .ok acc ∧ ParI N w acc ov W) (fun s W => ∃ n, setsF s [] = .error n ∧ BadI N w n W) (by rw [hz6]; exact par_steady N w) (by rw [hz6]; exact bad_steady N w)
    ⟨[], _, rfl, HP0.out⟩ (fun x => { tmps := #[.string ⟨S.toArray⟩, undef, .pointer (some ⟨N, 0, none⟩), .pointer (some ⟨N + 1, 0, none⟩), .pointer (some ⟨N + 2, 0, none⟩), .string ⟨x.toArray⟩, undef, undef, undef, undef, undef, undef, undef, .string ⟨S.toArray⟩, .func (.func 157) #[] #[.pointer (some ⟨N + 3 + 1, 0, none⟩), .pointer (some ⟨N + 3, 0, none⟩), .pointer (some ⟨N + 3 + 2, 0, none⟩)], .string ⟨x.toArray⟩, undef, undef, undef, undef, undef, undef, undef, undef, undef, undef, undef, undef, undef, undef, undef, undef, undef, undef, undef, undef, undef, undef, undef, undef, undef, undef, undef, undef, undef, undef, undef, undef, undef, undef, undef, undef, undef], defers := [] }) ?assign ?body ?done ?stop
  case assign =>
    intro l x W K hK
    gi_wp2
    exact hK
  case body =>
    rintro l pre x W hxl ⟨acc, ov, hs, hP⟩ hsz
    obtain ⟨ao, cap, rfl⟩ := owned_val hP.own
    have hpx := pair_two x
    have hsiz := hP.siz
    have gW := HGM.out W hP.low
    have cC := cutS_any x W hxl gW
    obtain ⟨hAl, hBl⟩ := two_len x
    have hAl' : (twoF x).1.length ≤ 2000000 := by omega
    have hBl' : (twoF x).2.length ≤ 2000000 := by omega
    by_cases hi : Lib.index x [58] < 0
    · rw [cut_one hi] at cC
      rw [two_one hi] at hpx hAl' hBl'
      dsimp only at cC hpx hAl' hBl'
      clear hi hBl'
      cases ha : numS x with
      | none =>
        have cA := num_no ha hAl'
        have HS : Hid (setsF (pre ++ [x]) [] = .error 3) := Lib.hid (by rw [sets_snoc pre [x] [] acc hs, setsF, hpx, ha])
        clear ha hpx
        gi_wp2_with (first
          | (refine ⟨trivial, ?_⟩; gi_at_call 52; go_loud (((with_reducible refine (CallsIn.inRound l (callsIn_wide.2 (cC))).mono ?_); rintro e w1 ⟨rfl, y1⟩; have g1 := HGS.out w1 (hP.low.trans (y1.mono (by omega))))))
          | (refine ⟨trivial, ?_⟩; gi_at_call 129; go_loud (((with_reducible refine (CallsIn.inRound l (callsIn_wide.2 (cA w1 g1))).mono ?_); rintro e w2 ⟨va, rfl, y2⟩; have z2 := y1.trans (y2.mono y1.size); have g2 := HGS.out w2 (hP.low.trans (z2.mono (by omega))))))
          | (refine ⟨trivial, ?_⟩; gi_at_call 129; go_loud (((with_reducible refine (CallsIn.inRound l (callsIn_wide.2 (cA w2 g2))).mono ?_); rintro e w3 ⟨vb, rfl, y3⟩; have z3 := z2.trans (y3.mono z2.size); have hP3 := hP.below z3; obtain ⟨f0, f1, f2, e2, e0, e1⟩ := par_cells hP3; have l3 := hP3.len))))
        exact ⟨((keeps_below z3).trans (KeepsOthers.setCell _ _ _)).trans (KeepsOthers.setCell _ _ _), 3, by exact HS.out, hP3.bad 3⟩
      | some va =>
        have cA := num_yes ha hAl'
        by_cases h20 : acc.length = 20
        · have HS : Hid (setsF (pre ++ [x]) [] = .error 4) := Lib.hid (by rw [sets_snoc pre [x] [] acc hs, setsF, hpx, ha]; dsimp only; rw [if_pos h20])
          have h20z : (acc.length : Int) = 20 := by omega
          clear ha hpx h20
          gi_wp2_with (first
            | (refine ⟨trivial, ?_⟩; gi_at_call 52; go_loud (((with_reducible refine (CallsIn.inRound l (callsIn_wide.2 (cC))).mono ?_); rintro e w1 ⟨rfl, y1⟩; have g1 := HGS.out w1 (hP.low.trans (y1.mono (by omega))))))
            | (refine ⟨trivial, ?_⟩; gi_at_call 129; go_loud (((with_reducible refine (CallsIn.inRound l (callsIn_wide.2 (cA w1 g1))).mono ?_); rintro e w2 ⟨rfl, y2⟩; have z2 := y1.trans (y2.mono y1.size); have g2 := HGS.out w2 (hP.low.trans (z2.mono (by omega))))))
            | (refine ⟨trivial, ?_⟩; gi_at_call 129; go_loud (((with_reducible refine (CallsIn.inRound l (callsIn_wide.2 (cA w2 g2))).mono ?_); rintro e w3 ⟨rfl, y3⟩; have z3 := z2.trans (y3.mono z2.size); have hP3 := hP.below z3; obtain ⟨f0, f1, f2, e2, e0, e1⟩ := par_cells hP3; have l3 := hP3.len))))
          exact ⟨((keeps_below z3).trans (KeepsOthers.setCell _ _ _)).trans (KeepsOthers.setCell _ _ _), 4, by exact HS.out, hP3.bad 4⟩
        · have HS : Hid (setsF (pre ++ [x]) [] = .ok (acc ++ [(va, va)])) := Lib.hid (by rw [sets_snoc pre [x] [] acc hs, setsF, hpx, ha]; dsimp only; rw [if_neg h20, setsF])
          have h20z : ((acc.length : Int) == 20) = false := by rw [beq_eq_false_iff_ne]; omega
          clear ha hpx
          gi_wp2_with (first
            | (refine ⟨trivial, ?_⟩; gi_at_call 52; go_loud (((with_reducible refine (CallsIn.inRound l (callsIn_wide.2 (cC))).mono ?_); rintro e w1 ⟨rfl, y1⟩; have g1 := HGS.out w1 (hP.low.trans (y1.mono (by omega))))))
            | (refine ⟨trivial, ?_⟩; gi_at_call 129; go_loud (((with_reducible refine (CallsIn.inRound l (callsIn_wide.2 (cA w1 g1))).mono ?_); rintro e w2 ⟨rfl, y2⟩; have z2 := y1.trans (y2.mono y1.size); have g2 := HGS.out w2 (hP.low.trans (z2.mono (by omega))))))
            | (refine ⟨trivial, ?_⟩; gi_at_call 129; go_loud (((with_reducible refine (CallsIn.inRound l (callsIn_wide.2 (cA w2 g2))).mono ?_); rintro e w3 ⟨rfl, y3⟩; have z3 := z2.trans (y3.mono z2.size); have hP3 := hP.below z3; obtain ⟨f0, f1, f2, e2, e0, e1⟩ := par_cells hP3; have l3 := hP3.len)))
            | (gi_at_builtin; go_loud ((refine wpListIn_app2 rfl _ _ 29 rfl 100 Tryz.underlying29 rng_info rfl N _ _ _ _ rfl hP3.own (.int .i64 va) (.int .i64 va) rfl rfl rfl ?c1 (by decide) ?c2 ?_))))
          case c1 => omega
          case c2 => have := hP3.siz; omega
          intro v' w4 ho hg hv'
          obtain ⟨g', cap', rfl⟩ := ownsRow_succ ho
          obtain ⟨p1, p2, p3, p4⟩ := hP3.push (va, va) (by omega) ho hg
          obtain ⟨k1, k2⟩ : w4.cell? ⟨N + 2, 0, none⟩ = some (.slice ao acc.length cap) ∧ w4.frozen? ⟨N + 2, 0, none⟩ = false := ⟨by rw [Lib.cell_of_heap p4]; rfl, Lib.frozen_of_heap p4 0⟩
          have HF := Lib.hid (And.intro p1 (And.intro ((keeps_below z3).trans p2) (fun k hk => (p3 k hk).trans (z3.block k (by have := hP.siz; omega)))))
          clear p1 p2 p3 p4 ho hg
          gi_wp2
          exact ⟨HF.out.2.1, ⟨_, _, HS.out, HF.out.1⟩, par_kept hML HF.out.2.2⟩
    · rw [cut_two hi] at cC
      dsimp only at cC
      have hAl := hAl'
      have hBl := hBl'
      generalize (twoF x).1 = A at cC hpx hAl
      generalize (twoF x).2 = Bt at cC hpx hBl
      clear hi hAl' hBl'
      cases ha : numS A with
      | none =>
        have cA := num_no ha hAl
        have HS : Hid (setsF (pre ++ [x]) [] = .error 3) := Lib.hid (by rw [sets_snoc pre [x] [] acc hs, setsF, hpx, ha])
        clear ha hpx
        cases hb : numS Bt with
        | none =>
          have cB := num_no hb hBl
          clear hb
          gi_wp2_with (first
            | (refine ⟨trivial, ?_⟩; gi_at_call 52; go_loud (((with_reducible refine (CallsIn.inRound l (callsIn_wide.2 (cC))).mono ?_); rintro e w1 ⟨rfl, y1⟩; have g1 := HGS.out w1 (hP.low.trans (y1.mono (by omega))))))
            | (refine ⟨trivial, ?_⟩; gi_at_call 129; go_loud (((with_reducible refine (CallsIn.inRound l (callsIn_wide.2 (cA w1 g1))).mono ?_); rintro e w2 ⟨va, rfl, y2⟩; have z2 := y1.trans (y2.mono y1.size); have g2 := HGS.out w2 (hP.low.trans (z2.mono (by omega))))))
            | (refine ⟨trivial, ?_⟩; gi_at_call 129; go_loud (((with_reducible refine (CallsIn.inRound l (callsIn_wide.2 (cB w2 g2))).mono ?_); rintro e w3 ⟨vb, rfl, y3⟩; have z3 := z2.trans (y3.mono z2.size); have hP3 := hP.below z3; obtain ⟨f0, f1, f2, e2, e0, e1⟩ := par_cells hP3; have l3 := hP3.len))))
          exact ⟨((keeps_below z3).trans (KeepsOthers.setCell _ _ _)).trans (KeepsOthers.setCell _ _ _), 3, by exact HS.out, hP3.bad 3⟩
        | some vb =>
          have cB := num_yes hb hBl
          clear hb
          gi_wp2_with (first
            | (refine ⟨trivial, ?_⟩; gi_at_call 52; go_loud (((with_reducible refine (CallsIn.inRound l (callsIn_wide.2 (cC))).mono ?_); rintro e w1 ⟨rfl, y1⟩; have g1 := HGS.out w1 (hP.low.trans (y1.mono (by omega))))))
            | (refine ⟨trivial, ?_⟩; gi_at_call 129; go_loud (((with_reducible refine (CallsIn.inRound l (callsIn_wide.2 (cA w1 g1))).mono ?_); rintro e w2 ⟨va, rfl, y2⟩; have z2 := y1.trans (y2.mono y1.size); have g2 := HGS.out w2 (hP.low.trans (z2.mono (by omega))))))
            | (refine ⟨trivial, ?_⟩; gi_at_call 129; go_loud (((with_reducible refine (CallsIn.inRound l (callsIn_wide.2 (cB w2 g2))).mono ?_); rintro e w3 ⟨rfl, y3⟩; have z3 := z2.trans (y3.mono z2.size); have hP3 := hP.below z3; obtain ⟨f0, f1, f2, e2, e0, e1⟩ := par_cells hP3; have l3 := hP3.len))))
          exact ⟨((keeps_below z3).trans (KeepsOthers.setCell _ _ _)).trans (KeepsOthers.setCell _ _ _), 3, by exact HS.out, hP3.bad 3⟩
      | some va =>
        have cA := num_yes ha hAl
        cases hb : numS Bt with
        | none =>
          have cB := num_no hb hBl
          have HS : Hid (setsF (pre ++ [x]) [] = .error 3) := Lib.hid (by rw [sets_snoc pre [x] [] acc hs, setsF, hpx, ha, hb])
          clear ha hb hpx
          gi_wp2_with (first
            | (refine ⟨trivial, ?_⟩; gi_at_call 52; go_loud (((with_reducible refine (CallsIn.inRound l (callsIn_wide.2 (cC))).mono ?_); rintro e w1 ⟨rfl, y1⟩; have g1 := HGS.out w1 (hP.low.trans (y1.mono (by omega))))))
            | (refine ⟨trivial, ?_⟩; gi_at_call 129; go_loud (((with_reducible refine (CallsIn.inRound l (callsIn_wide.2 (cA w1 g1))).mono ?_); rintro e w2 ⟨rfl, y2⟩; have z2 := y1.trans (y2.mono y1.size); have g2 := HGS.out w2 (hP.low.trans (z2.mono (by omega))))))
            | (refine ⟨trivial, ?_⟩; gi_at_call 129; go_loud (((with_reducible refine (CallsIn.inRound l (callsIn_wide.2 (cB w2 g2))).mono ?_); rintro e w3 ⟨vb, rfl, y3⟩; have z3 := z2.trans (y3.mono z2.size); have hP3 := hP.below z3; obtain ⟨f0, f1, f2, e2, e0, e1⟩ := par_cells hP3; have l3 := hP3.len))))
          exact ⟨((keeps_below z3).trans (KeepsOthers.setCell _ _ _)).trans (KeepsOthers.setCell _ _ _), 3, by exact HS.out, hP3.bad 3⟩
        | some vb =>
          have cB := num_yes hb hBl
          by_cases h20 : acc.length = 20
          · have HS : Hid (setsF (pre ++ [x]) [] = .error 4) := Lib.hid (by rw [sets_snoc pre [x] [] acc hs, setsF, hpx, ha, hb]; dsimp only; rw [if_pos h20])
            have h20z : (acc.length : Int) = 20 := by omega
            clear ha hb hpx h20
            gi_wp2_with (first
              | (refine ⟨trivial, ?_⟩; gi_at_call 52; go_loud (((with_reducible refine (CallsIn.inRound l (callsIn_wide.2 (cC))).mono ?_); rintro e w1 ⟨rfl, y1⟩; have g1 := HGS.out w1 (hP.low.trans (y1.mono (by omega))))))
              | (refine ⟨trivial, ?_⟩; gi_at_call 129; go_loud (((with_reducible refine (CallsIn.inRound l (callsIn_wide.2 (cA w1 g1))).mono ?_); rintro e w2 ⟨rfl, y2⟩; have z2 := y1.trans (y2.mono y1.size); have g2 := HGS.out w2 (hP.low.trans (z2.mono (by omega))))))
              | (refine ⟨trivial, ?_⟩; gi_at_call 129; go_loud (((with_reducible refine (CallsIn.inRound l (callsIn_wide.2 (cB w2 g2))).mono ?_); rintro e w3 ⟨rfl, y3⟩; have z3 := z2.trans (y3.mono z2.size); have hP3 := hP.below z3; obtain ⟨f0, f1, f2, e2, e0, e1⟩ := par_cells hP3; have l3 := hP3.len))))
            exact ⟨((keeps_below z3).trans (KeepsOthers.setCell _ _ _)).trans (KeepsOthers.setCell _ _ _), 4, by exact HS.out, hP3.bad 4⟩
          · have HS : Hid (setsF (pre ++ [x]) [] = .ok (acc ++ [(va, vb)])) := Lib.hid (by rw [sets_snoc pre [x] [] acc hs, setsF, hpx, ha, hb]; dsimp only; rw [if_neg h20, setsF])
            have h20z : ((acc.length : Int) == 20) = false := by rw [beq_eq_false_iff_ne]; omega
            clear ha hb hpx
            gi_wp2_with (first
              | (refine ⟨trivial, ?_⟩; gi_at_call 52; go_loud (((with_reducible refine (CallsIn.inRound l (callsIn_wide.2 (cC))).mono ?_); rintro e w1 ⟨rfl, y1⟩; have g1 := HGS.out w1 (hP.low.trans (y1.mono (by omega))))))
              | (refine ⟨trivial, ?_⟩; gi_at_call 129; go_loud (((with_reducible refine (CallsIn.inRound l (callsIn_wide.2 (cA w1 g1))).mono ?_); rintro e w2 ⟨rfl, y2⟩; have z2 := y1.trans (y2.mono y1.size); have g2 := HGS.out w2 (hP.low.trans (z2.mono (by omega))))))
              | (refine ⟨trivial, ?_⟩; gi_at_call 129; go_loud (((with_reducible refine (CallsIn.inRound l (callsIn_wide.2 (cB w2 g2))).mono ?_); rintro e w3 ⟨rfl, y3⟩; have z3 := z2.trans (y3.mono z2.size); have hP3 := hP.below z3; obtain ⟨f0, f1, f2, e2, e0, e1⟩ := par_cells hP3; have l3 := hP3.len)))
              | (gi_at_builtin; go_loud ((refine wpListIn_app2 rfl _ _ 29 rfl 100 Tryz.underlying29 rng_info rfl N _ _ _ _ rfl hP3.own (.int .i64 va) (.int .i64 vb) rfl rfl rfl ?c1 (by decide) ?c2 ?_))))
            case c1 => omega
            case c2 => have := hP3.siz; omega
            intro v' w4 ho hg hv'
            obtain ⟨g', cap', rfl⟩ := ownsRow_succ ho
            obtain ⟨p1, p2, p3, p4⟩ := hP3.push (va, vb) (by omega) ho hg
            obtain ⟨k1, k2⟩ : w4.cell? ⟨N + 2, 0, none⟩ = some (.slice ao acc.length cap) ∧ w4.frozen? ⟨N + 2, 0, none⟩ = false := ⟨by rw [Lib.cell_of_heap p4]; rfl, Lib.frozen_of_heap p4 0⟩
            have HF := Lib.hid (And.intro p1 (And.intro ((keeps_below z3).trans p2) (fun k hk => (p3 k hk).trans (z3.block k (by have := hP.siz; omega)))))
            clear p1 p2 p3 p4 ho hg
            gi_wp2
            exact ⟨HF.out.2.1, ⟨_, _, HS.out, HF.out.1⟩, par_kept hML HF.out.2.2⟩
  case done =>
    rintro D W hD ⟨acc, ov, hs, hP⟩ hK
    obtain ⟨ao, cap, rfl⟩ := owned_val hP.own
    obtain ⟨f0, f1, f2, e2, e0, e1⟩ := par_cells hP
    have HP := Lib.hid hP
    have HS := Lib.hid hs
    clear hP hs
    gi_wp2
    have hP := HP.out
    have hK' := ((KeepsOthers.setCell W ⟨N, 0, none⟩ (.slice ao acc.length cap)).trans (KeepsOthers.setCell _ ⟨N + 1, 0, none⟩ .nilIface)).same D _ hK rfl
    have hr1 : ((W.setCell ⟨N, 0, none⟩ (.slice ao acc.length cap)).setCell ⟨N + 1, 0, none⟩ .nilIface).heap[N]? = some (.cells #[.slice ao acc.length cap] 29 (0, 0)) := setCell_same (set1 hP.r1) (by simp)
    have hr2 : ((W.setCell ⟨N, 0, none⟩ (.slice ao acc.length cap)).setCell ⟨N + 1, 0, none⟩ .nilIface).heap[N + 1]? = some (.cells #[.nilIface] 37 (0, 0)) := set1 (setCell_same hP.r2 (by simp))
    have ho1 := hP.own.kept (grownBy_setCell' W N (.slice ao acc.length cap)) (.inr (row_not (c := []) hP.own hP.r1 (by decide)).symm)
    have ho2 := ho1.kept (grownBy_setCell' _ (N + 1) .nilIface) (.inr (row_not (c := []) ho1 (setCell_same hP.r2 (by simp)) (by decide)).symm)
    have hy := (hP.low.setCell (p := ⟨N, 0, none⟩) (Nat.le_refl _) (.slice ao acc.length cap)).setCell (p := ⟨N + 1, 0, none⟩) (by simp) .nilIface
    have hzz := hP.siz
    generalize (W.setCell ⟨N, 0, none⟩ (.slice ao acc.length cap)).setCell ⟨N + 1, 0, none⟩ .nilIface = W2 at hK' hr1 hr2 ho2 hy ⊢
    rw [hz6] at hD
    refine ⟨by simp, .inl ⟨_, _, rfl, run_takeDeferred hK', ?_⟩⟩
    have k1 : (W2.putObj D (.deferred none)).cell? ⟨N, 0, none⟩ = some (.slice ao acc.length cap) := by rw [Lib.cell_of_heap ((World.putObj_heap_other (by omega)).trans hr1)]; rfl
    have k2 : (W2.putObj D (.deferred none)).cell? ⟨N + 1, 0, none⟩ = some .nilIface := by rw [Lib.cell_of_heap ((World.putObj_heap_other (by omega)).trans hr2)]; rfl
    refine ⟨.tuple #[.slice ao acc.length cap, .nilIface], ?_, ?_⟩
    · simp [results, Tryz.f104, go_sem, k1, k2]
    · refine (HPar.out _ _).2 ?_
      rw [show parseS S = .ok acc from HS.out]
      exact ⟨_, rfl, ownsRow_putObj ho2 _ hK' rfl, hP.len, hy.grown (grownBy_putObj' W2 D _) (by have := hy.size; omega) (fun k e => by cases e; omega)⟩
  case stop =>
    rintro D pre W hD hpre ⟨n, hs, hP⟩ hK
    have HP := Lib.hid hP
    have HS := Lib.hid hs
    clear hP hs
    gi_wp2
    have hP := HP.out
    rw [hz6] at hD
    refine ⟨by simp, .inl ⟨_, _, rfl, run_takeDeferred hK, ?_⟩⟩
    have k1 : (W.putObj D (.deferred none)).cell? ⟨N, 0, none⟩ = some (.slice none 0 0) := by rw [Lib.cell_of_heap ((World.putObj_heap_other (by omega)).trans hP.r1)]; rfl
    have k2 : (W.putObj D (.deferred none)).cell? ⟨N + 1, 0, none⟩ = some (.iface 33 (.int .i64 (n : Int))) := by rw [Lib.cell_of_heap ((World.putObj_heap_other (by omega)).trans hP.r2)]; rfl
    refine ⟨.tuple #[.slice none 0 0, .iface 33 (.int .i64 (n : Int))], ?_, ?_⟩
    · simp [results, Tryz.f104, go_sem, k1, k2]
    · refine (HPar.out _ _).2 ?_
      obtain ⟨r, hr⟩ := hpre
      rw [show parseS S = .error n by unfold parseS; rw [← hr]; exact sets_bad pre r [] n HS.out]
      exact ⟨rfl, hP.low.grown (grownBy_putObj' W D _) (by have := hP.siz; omega) (fun k e => by cases e; omega)⟩
end Go.Proofs.YtcahhnjponeeeaaGreatDoor
