/- The walk over SearchAlgebra's closure that reads words and asks whether a letter is what they look for. Conditions: flags.system, strconv's table of powers and its two errors, bytealg.MaxLen and the handle of error lie as the program's text lays them. The walk over letterboxkeep.SearchAlgebra: it returns true, whatever it is given, if no text is too long. Conditions: flags.system, strconv's table of powers and its two errors, bytealg.MaxLen and the handle of error lie as the program's text lays them. The walk over letterboxkeep.SearchAlgebra: it returns true, whatever it is given, if no text is too long. Conditions: flags.system, strconv's table of powers and its two errors, bytealg.MaxLen and the handle of error lie as the program's text lays them. -/
import Derived.Test.YtmhidmkomljjjaaGreatDoorSrchS
import Derived.Test.YtmhidmkomljjjaaGreatDoorTexts
namespace Go.Proofs.YtmhidmkomljjjaaGreatDoor
open Go.RowKit Go.Shelf Go.Sort
set_option linter.unusedSimpArgs false

/-- whether words are read -/
def okP (l : List Wd) : Bool := match parseK l with
  | .ok _ => true
  | .error _ => false
/-- whether a letter is what words look for -/
def hearP (x : LetK) (l : List Wd) : Bool := match parseK l with
  | .ok k => holdsK x k
  | .error _ => false
/-- the letter, where it stands and in what, as the closure finds them -/
structure HearW (x : LetK) (fv : Value) (L N M : Nat) (W : World) : Prop where
  l : W.heap[L]? = some (.cells #[.int .i64 x.uid, fv, .int .i64 x.day, .string ⟨x.text.toArray⟩] 25 (0, 0))
  n : W.heap[N]? = some (.cells #[.int .i64 x.which] 3 (0, 0))
  m : W.heap[M]? = some (.cells #[.int .i64 x.many, .int .i64 x.greatest] 29 (0, 0))
  f : SRow W fv x.flags
  g : SrG W
theorem HearW.below {x : LetK} {fv : Value} {L N M : Nat} {W W' : World} (h : HearW x fv L N M W) (hb : Below W.heap.size W W') : HearW x fv L N M W' :=
  ⟨below_same hb h.l, below_same hb h.n, below_same hb h.m, h.f.below hb, h.g.below hb⟩
set_option maxRecDepth 100000 in
set_option maxHeartbeats 8000000 in
theorem hearA_any (x : LetK) (fv : Value) (hl : x.flags.length ≤ 1000000) (hx : x.text.length ≤ 9000) (v : Value) (l : List Wd) (L N M : Nat) (W : World) (h : HearW x fv L N M W) (hr : ReadsK W W.heap.size v l) :
    Calls Tryz.prog 6 #[v, .pointer (some ⟨L, 0, none⟩), .pointer (some ⟨N, 0, none⟩), .pointer (some ⟨M, 0, none⟩)] W fun e w' => e = .returned (.tuple #[.bool (hearP x l), .bool (okP l)]) ∧ Below W.heap.size W w' := by
  unfold hearP okP
  cases hp : parseK l with
  | error E =>
    have cP := parse_bad hp v W hr h.g
    clear h hr hp
    go_enter Tryz.func6, Tryz.ntmps6
    go_upto_region 2 with (go_at_call 7; go_loud (((with_reducible refine cP.mono ?_); rintro e w2 ⟨rfl, h2⟩)))
    have y2 := h2.alloc h2.size (.cells zero6 33)
    generalize w2.alloc (.cells zero6 33) = w3 at *
    go_region
    all_goals
      go_wp2_with fail
      go_ret2
      exact ⟨rfl, y2.drew⟩
  | ok k =>
    have cP := parse_good hp v W hr h.g
    have HW := Lib.hid h
    obtain ⟨R, hR⟩ : ∃ R, holdsK x k = R := ⟨_, rfl⟩
    dsimp only
    rw [hR]
    have HR := Lib.hid hR
    clear h hr hp hR
    go_enter Tryz.func6, Tryz.ntmps6
    go_upto_region 2 with (go_at_call 7; go_loud (((with_reducible refine cP.mono ?_); rintro e w2 ⟨code, name, text, n, set, keys, sa, ka, sc, kc, rfl, hk, h2⟩)))
    have b3 := (Below.refl w2.heap.size w2).alloc (Nat.le_refl _) (.cells #[.int .i64 code, .string ⟨name.toArray⟩, .string ⟨text.toArray⟩, .int .i64 n, .slice sa set.length sc, .slice ka keys.length kc] 33)
    have z3 := World.heap_alloc_new w2 (.cells #[.int .i64 code, .string ⟨name.toArray⟩, .string ⟨text.toArray⟩, .int .i64 n, .slice sa set.length sc, .slice ka keys.length kc] 33)
    generalize w2.alloc (.cells #[.int .i64 code, .string ⟨name.toArray⟩, .string ⟨text.toArray⟩, .int .i64 n, .slice sa set.length sc, .slice ka keys.length kc] 33) = w3 at *
    have y3 := h2.trans (b3.mono h2.size)
    have w3h := HW.out.below y3
    have c1 := fun W' (hW : Below w3.heap.size w3 W') => holds_any x fv hl hx hk.out W' (b3.trans (hW.mono b3.size)) (w3h.f.below hW) (w3h.g.below hW).maxL
    rw [HR.out] at c1
    have KEEP := Lib.hid (fun W' (hW : Below w3.heap.size w3 W') => (show W'.cell? ⟨w2.heap.size, 0, none⟩ = some (.int .i64 code) ∧ W'.cell? ⟨w2.heap.size, 1, none⟩ = some (.string ⟨name.toArray⟩) ∧ W'.cell? ⟨w2.heap.size, 2, none⟩ = some (.string ⟨text.toArray⟩) ∧ W'.cell? ⟨w2.heap.size, 3, none⟩ = some (.int .i64 n) ∧ W'.cell? ⟨w2.heap.size, 4, none⟩ = some (.slice sa set.length sc) ∧ W'.cell? ⟨w2.heap.size, 5, none⟩ = some (.slice ka keys.length kc) ∧ W'.cell? ⟨L, 0, none⟩ = some (.int .i64 x.uid) ∧ W'.cell? ⟨L, 1, none⟩ = some (fv) ∧ W'.cell? ⟨L, 2, none⟩ = some (.int .i64 x.day) ∧ W'.cell? ⟨L, 3, none⟩ = some (.string ⟨x.text.toArray⟩) ∧ W'.cell? ⟨N, 0, none⟩ = some (.int .i64 x.which) ∧ W'.cell? ⟨M, 0, none⟩ = some (.int .i64 x.many) ∧ W'.cell? ⟨M, 1, none⟩ = some (.int .i64 x.greatest) from by
      obtain ⟨k0, k1, k2, k3, k4, k5⟩ := six_cells' (below_same hW z3)
      obtain ⟨l0, l1, l2, l3⟩ := four_cells (below_same hW w3h.l)
      have n0 := one_cell (below_same hW w3h.n)
      obtain ⟨m0, m1⟩ := two_cells (below_same hW w3h.m)
      exact ⟨k0, k1, k2, k3, k4, k5, l0, l1, l2, l3, n0, m0, m1⟩))
    have hb := (Below.refl w3.heap.size w3).drew
    clear hk z3 b3 h2 cP w3h hl hx
    generalize w2.heap.size = K at KEEP ⊢
    go_region_held3 (fun W => W.cell? ⟨K, 0, none⟩ = some (.int .i64 code) ∧ W.cell? ⟨K, 1, none⟩ = some (.string ⟨name.toArray⟩) ∧ W.cell? ⟨K, 2, none⟩ = some (.string ⟨text.toArray⟩) ∧ W.cell? ⟨K, 3, none⟩ = some (.int .i64 n) ∧ W.cell? ⟨K, 4, none⟩ = some (.slice sa set.length sc) ∧ W.cell? ⟨K, 5, none⟩ = some (.slice ka keys.length kc) ∧ W.cell? ⟨L, 0, none⟩ = some (.int .i64 x.uid) ∧ W.cell? ⟨L, 1, none⟩ = some (fv) ∧ W.cell? ⟨L, 2, none⟩ = some (.int .i64 x.day) ∧ W.cell? ⟨L, 3, none⟩ = some (.string ⟨x.text.toArray⟩) ∧ W.cell? ⟨N, 0, none⟩ = some (.int .i64 x.which) ∧ W.cell? ⟨M, 0, none⟩ = some (.int .i64 x.many) ∧ W.cell? ⟨M, 1, none⟩ = some (.int .i64 x.greatest))
      (exact KEEP.out _ hb)
      (first | (go_at_call 8; with_reducible refine (c1 _ hb).mono ?_; rintro e w4 ⟨rfl, h4⟩; have hb := hb.trans (h4.mono hb.size)))
    all_goals
      go_wp2_with fail
      go_ret2
      exact ⟨rfl, y3.trans (hb.mono y3.size)⟩
end Go.Proofs.YtmhidmkomljjjaaGreatDoor
namespace Go.Proofs.YtmhidmkomljjjaaGreatDoor
open Go.RowKit Go.Shelf Go.Sort
set_option linter.unusedSimpArgs false

theorem ok_key {l : List Wd} (h : okP l = true) : ∃ k, parseK l = .ok k := by
  unfold okP at h
  split at h
  · exact ⟨_, by assumption⟩
  · cases h
theorem hear_key {l : List Wd} {k : KeyP} (h : parseK l = .ok k) (x : LetK) : hearP x l = holdsK x k := by unfold hearP; rw [h]
theorem fact_not (x : LetK) {a : List Wd} (ha : okP a = true) (h : okP [atomW [78, 79, 84], listW a] = true) : hearP x [atomW [78, 79, 84], listW a] = !hearP x a := by
  obtain ⟨ka, h1⟩ := ok_key ha
  obtain ⟨k, h2⟩ := ok_key h
  rw [hear_key h1, hear_key h2, law_not h1 h2, holds_not]
theorem fact_and (x : LetK) {a b : List Wd} (ha : okP a = true) (hb : okP b = true) (h : okP [listW a, listW b] = true) : hearP x [listW a, listW b] = (hearP x a && hearP x b) := by
  obtain ⟨ka, h1⟩ := ok_key ha
  obtain ⟨kb, h2⟩ := ok_key hb
  obtain ⟨k, h3⟩ := ok_key h
  rw [hear_key h1, hear_key h2, hear_key h3, law_and h1 h2 h3, holds_and]
theorem fact_or (x : LetK) {a b : List Wd} (ha : okP a = true) (hb : okP b = true) (h : okP [atomW [111, 114], listW a, listW b] = true) : hearP x [atomW [111, 114], listW a, listW b] = (hearP x a || hearP x b) := by
  obtain ⟨ka, h1⟩ := ok_key ha
  obtain ⟨kb, h2⟩ := ok_key hb
  obtain ⟨k, h3⟩ := ok_key h
  rw [hear_key h1, hear_key h2, hear_key h3, law_or h1 h2 h3, holds_or]
theorem fact_none (x : LetK) {a b : List Wd} (ha : okP a = true) (hb : okP b = true) (h : okP [atomW [78, 79, 84], listW [atomW [79, 82], listW a, listW b]] = true) : hearP x [atomW [78, 79, 84], listW [atomW [79, 82], listW a, listW b]] = !(hearP x a || hearP x b) := by
  obtain ⟨ka, h1⟩ := ok_key ha
  obtain ⟨kb, h2⟩ := ok_key hb
  obtain ⟨k, h3⟩ := ok_key h
  rw [hear_key h1, hear_key h2, hear_key h3, law_none h1 h2 h3, holds_not, holds_or]
theorem arg_size : (Tryz.prog.info? 41).map (·.size) = some 3 := by kernel_rfl
set_option maxRecDepth 100000 in
set_option maxHeartbeats 2000000 in
theorem wordA_any (s : ByteArray) (w : World) : Calls Tryz.prog 9 #[.string s] w fun e w' => e = .returned (.agg #[.int .i64 1, .string s, .slice none 0 0]) ∧ Below w.heap.size w w' := by
  have y0 := (Below.refl w.heap.size w).alloc (Nat.le_refl _) (.cells #[.int .i64 1, .string s, .slice none 0 0] 41)
  have z0 := World.heap_alloc_new w (.cells #[.int .i64 1, .string s, .slice none 0 0] 41)
  go_enter Tryz.func9, Tryz.ntmps9
  go_wp2_with fail
  refine bodyPost_ret (results_cell_row (P := Tryz.prog) rfl _ _ w.heap.size _ _ _ _ rfl z0 Tryz.underlying41 rfl arg_size) rfl ?_
  exact ⟨rfl, y0⟩
theorem listA_any (a : Option Addr) (n c : Nat) (w : World) : Calls Tryz.prog 10 #[.slice a n c] w fun e w' => e = .returned (.agg #[.int .i64 3, .string ⟨#[]⟩, .slice a n c]) ∧ Below w.heap.size w w' := by
  have y0 := (Below.refl w.heap.size w).alloc (Nat.le_refl _) (.cells #[.int .i64 3, .string ⟨#[]⟩, .slice a n c] 41)
  have z0 := World.heap_alloc_new w (.cells #[.int .i64 3, .string ⟨#[]⟩, .slice a n c] 41)
  go_enter Tryz.func10, Tryz.ntmps10
  go_wp2_with fail
  refine bodyPost_ret (results_cell_row (P := Tryz.prog) rfl _ _ w.heap.size _ _ _ _ rfl z0 Tryz.underlying41 rfl arg_size) rfl ?_
  exact ⟨rfl, y0⟩
end Go.Proofs.YtmhidmkomljjjaaGreatDoor
namespace Go.Proofs.YtmhidmkomljjjaaGreatDoor
open Go.RowKit Go.Shelf Go.Sort
set_option linter.unusedSimpArgs false

set_option maxRecDepth 100000 in
set_option maxHeartbeats 16000000 in
theorem algebra_any (x : LetK) (fv : Value) (av bv : Value) (a b : List Wd) (w : World) (hf : SRow w fv x.flags) (hft : ∀ t ∈ x.flags, t.length ≤ 9223372036854775807) (hxt : x.text.length ≤ 9223372036854775807) (ha : ReadsK w w.heap.size av a) (hb : ReadsK w w.heap.size bv b) (hG : SrG w) :
    Calls Tryz.prog 3 #[av, bv, .agg #[.int .i64 x.uid, fv, .int .i64 x.day, .string ⟨x.text.toArray⟩], .int .i64 x.which, .int .i64 x.many, .int .i64 x.greatest] w fun e w' => e = .returned (.bool true) ∧ Below w.heap.size w w' := by
  obtain ⟨aa, ac, rfl, -, -⟩ := ha.val
  obtain ⟨ba, bc, rfl, -, -⟩ := hb.val
  have hts := text_size x.text
  have s1 := alloc_size w (.cells #[.int .i64 x.uid, fv, .int .i64 x.day, .string ⟨x.text.toArray⟩] 25)
  have l1 := World.heap_alloc_new w (.cells #[.int .i64 x.uid, fv, .int .i64 x.day, .string ⟨x.text.toArray⟩] 25)
  have b1 := (Below.refl w.heap.size w).alloc (Nat.le_refl _) (.cells #[.int .i64 x.uid, fv, .int .i64 x.day, .string ⟨x.text.toArray⟩] 25)
  have n2 := World.heap_alloc_new (w.alloc (.cells #[.int .i64 x.uid, fv, .int .i64 x.day, .string ⟨x.text.toArray⟩] 25)) (.cells #[.int .i64 x.which] 3)
  have l2 := alloc_same (x := .cells #[.int .i64 x.which] 3) l1
  have b2 := b1.alloc (by omega) (.cells #[.int .i64 x.which] 3)
  rw [s1] at n2
  have cT : ∀ W, Below w.heap.size w W → Calls Tryz.prog 4 #[fv] W fun e w' => e = .returned (.bool (textsF x.flags)) ∧ Below W.heap.size W w' := fun W hW => texts_any fv x.flags W (hf.below hW) hft
  have Y2 := Lib.hid b2
  have L2 := Lib.hid l2
  have N2 := Lib.hid n2
  have HF0 := Lib.hid hf
  have HA0 := Lib.hid ha
  have HB0 := Lib.hid hb
  have HG0 := Lib.hid (fun W (h : Below w.heap.size w W) => hG.below h)
  clear s1 b1 n2 l1 l2 b2 hf ha hb hG
  by_cases hA20 : (20 : Int) < (a.length : Int)
  · clear cT
    go_enter Tryz.func3, Tryz.ntmps3
    go_wp2_with fail
    go_ret
    exact ⟨rfl, Y2.out⟩
  by_cases hB20 : (20 : Int) < (b.length : Int)
  · clear cT
    go_enter Tryz.func3, Tryz.ntmps3
    go_wp2_with fail
    go_ret
    exact ⟨rfl, Y2.out⟩
  cases htx : textsF x.flags with
  | false =>
    rw [htx] at cT
    have cT1 := cT _ Y2.out
    have l1 := (four_cells L2.out).2.1
    clear cT htx
    go_enter Tryz.func3, Tryz.ntmps3
    go_upto_region 1 with fail
    generalize ((w.alloc (.cells #[.int .i64 x.uid, fv, .int .i64 x.day, .string ⟨x.text.toArray⟩] 25)).alloc (.cells #[.int .i64 x.which] 3)) = w2 at *
    go_wp2_with (go_at_call 4; go_loud (((with_reducible refine cT1.mono ?_); rintro e w3 ⟨rfl, h3⟩)))
    go_ret
    exact ⟨rfl, Y2.out.trans (h3.mono Y2.out.size)⟩
  | true =>
    rw [htx] at cT
    have cT1 := cT _ Y2.out
    have hl : x.flags.length ≤ 1000000 := by
      unfold textsF at htx
      rw [Bool.and_eq_true, decide_eq_true_eq] at htx
      omega
    have l1 := (four_cells L2.out).2.1
    have l3 := fun W (hW : Below ((w.alloc (.cells #[.int .i64 x.uid, fv, .int .i64 x.day, .string ⟨x.text.toArray⟩] 25)).alloc (.cells #[.int .i64 x.which] 3)).heap.size ((w.alloc (.cells #[.int .i64 x.uid, fv, .int .i64 x.day, .string ⟨x.text.toArray⟩] 25)).alloc (.cells #[.int .i64 x.which] 3)) W) => (four_cells (below_same hW L2.out)).2.2.2
    clear cT htx
    by_cases h500 : (500 : Int) < (x.text.length : Int)
    · go_enter Tryz.func3, Tryz.ntmps3
      go_upto_region 1 with fail
      generalize ((w.alloc (.cells #[.int .i64 x.uid, fv, .int .i64 x.day, .string ⟨x.text.toArray⟩] 25)).alloc (.cells #[.int .i64 x.which] 3)) = w2 at *
      go_wp2_with (go_at_call 4; go_loud (((with_reducible refine cT1.mono ?_); rintro e w3 ⟨rfl, h3⟩; have l4 := l3 w3 h3)))
      go_ret
      exact ⟨rfl, Y2.out.trans (h3.mono Y2.out.size)⟩
    have hx : x.text.length ≤ 9000 := by omega
    have cL := fun W (hW : Below w.heap.size w W) => looked_any W (HG0.out W hW)
    have HX := Lib.hid hx
    have HLF := Lib.hid hl
    clear hx hl
    go_enter Tryz.func3, Tryz.ntmps3
    go_upto_region 1 with fail
    generalize ((w.alloc (.cells #[.int .i64 x.uid, fv, .int .i64 x.day, .string ⟨x.text.toArray⟩] 25)).alloc (.cells #[.int .i64 x.which] 3)) = w2 at *
    go_upto_region 5 with (first
      | (go_at_call 4; go_loud (((with_reducible refine cT1.mono ?_); rintro e w3 ⟨rfl, h3⟩; have l4 := l3 w3 h3; have y3 := Y2.out.trans (h3.mono Y2.out.size); have cL1 := cL w3 y3)))
      | (go_at_call 5; go_loud (((with_reducible refine cL1.mono ?_); rintro e w4 ⟨rfl, h4⟩; have y4 := y3.trans (h4.mono y3.size); have h24 := h3.trans (h4.mono h3.size)))))
    clear l3 cL cL1 cT1 l4 l1
    go_upto_region 6 with fail
    have b5 := (Below.refl w4.heap.size w4).alloc (Nat.le_refl _) (.cells #[.int .i64 x.many, .int .i64 x.greatest] 29)
    have m5 := World.heap_alloc_new w4 (.cells #[.int .i64 x.many, .int .i64 x.greatest] 29)
    have l5 := below_same (h24.trans (b5.mono h24.size)) L2.out
    have n5 := below_same (h24.trans (b5.mono h24.size)) N2.out
    have y5 := y4.trans (b5.mono y4.size)
    generalize w4.alloc (.cells #[.int .i64 x.many, .int .i64 x.greatest] 29) = w1 at *
    have H1 : HearW x fv w.heap.size (w.heap.size + 1) w4.heap.size w1 := ⟨l5, n5, m5, HF0.out.below y5, HG0.out _ y5⟩
    have HA1 := HA0.out.under y5
    have HB1 := HB0.out.under y5
    have H1h := Lib.hid H1
    have HH := Lib.hid (fun W (h : Below w1.heap.size w1 W) => H1h.out.below h)
    have HA := fun W (h : Below w1.heap.size w1 W) => HA1.under (h.mono y5.size)
    have HB := fun W (h : Below w1.heap.size w1 W) => HB1.under (h.mono y5.size)
    have hl := HLF.out
    have hx := HX.out
    have hyz := y5.size
    obtain ⟨vA, hvA⟩ : ∃ v, hearP x a = v := ⟨_, rfl⟩
    obtain ⟨oA, hoA⟩ : ∃ v, okP a = v := ⟨_, rfl⟩
    have HVA := Lib.hid hvA
    have HOA := Lib.hid hoA
    clear hvA hoA
    obtain ⟨vB, hvB⟩ : ∃ v, hearP x b = v := ⟨_, rfl⟩
    obtain ⟨oB, hoB⟩ : ∃ v, okP b = v := ⟨_, rfl⟩
    have HVB := Lib.hid hvB
    have HOB := Lib.hid hoB
    clear hvB hoB
    obtain ⟨vN, hvN⟩ : ∃ v, hearP x [atomW [78, 79, 84], listW a] = v := ⟨_, rfl⟩
    obtain ⟨oN, hoN⟩ : ∃ v, okP [atomW [78, 79, 84], listW a] = v := ⟨_, rfl⟩
    have HVN := Lib.hid hvN
    have HON := Lib.hid hoN
    clear hvN hoN
    obtain ⟨vD, hvD⟩ : ∃ v, hearP x [listW a, listW b] = v := ⟨_, rfl⟩
    obtain ⟨oD, hoD⟩ : ∃ v, okP [listW a, listW b] = v := ⟨_, rfl⟩
    have HVD := Lib.hid hvD
    have HOD := Lib.hid hoD
    clear hvD hoD
    obtain ⟨vE, hvE⟩ : ∃ v, hearP x [listW b, listW a] = v := ⟨_, rfl⟩
    obtain ⟨oE, hoE⟩ : ∃ v, okP [listW b, listW a] = v := ⟨_, rfl⟩
    have HVE := Lib.hid hvE
    have HOE := Lib.hid hoE
    clear hvE hoE
    obtain ⟨vO, hvO⟩ : ∃ v, hearP x [atomW [111, 114], listW a, listW b] = v := ⟨_, rfl⟩
    obtain ⟨oO, hoO⟩ : ∃ v, okP [atomW [111, 114], listW a, listW b] = v := ⟨_, rfl⟩
    have HVO := Lib.hid hvO
    have HOO := Lib.hid hoO
    clear hvO hoO
    obtain ⟨vX, hvX⟩ : ∃ v, hearP x [atomW [78, 79, 84], listW [atomW [79, 82], listW a, listW b]] = v := ⟨_, rfl⟩
    obtain ⟨oX, hoX⟩ : ∃ v, okP [atomW [78, 79, 84], listW [atomW [79, 82], listW a, listW b]] = v := ⟨_, rfl⟩
    have HVX := Lib.hid hvX
    have HOX := Lib.hid hoX
    clear hvX hoX
    obtain ⟨vL, hvL⟩ : ∃ v, hearP x [atomW [97, 108, 108]] = v := ⟨_, rfl⟩
    obtain ⟨oL, hoL⟩ : ∃ v, okP [atomW [97, 108, 108]] = v := ⟨_, rfl⟩
    have HVL := Lib.hid hvL
    have HOL := Lib.hid hoL
    clear hvL hoL
    have cA := hearA_any x fv hl hx _ a w.heap.size (w.heap.size + 1) w4.heap.size w1 H1 (HA1.more y5.size)
    have cB := fun W (hW : Below w1.heap.size w1 W) => hearA_any x fv hl hx _ b w.heap.size (w.heap.size + 1) w4.heap.size W (HH.out W hW) ((HB W hW).more (by have := hW.size; omega))
    rw [HVA.out, HOA.out] at cA
    simp only [HVB.out, HOB.out] at cB
    have cNot : ∀ W, Below w1.heap.size w1 W → Calls Tryz.prog 6 #[.slice (some ⟨W.heap.size, 0, none⟩) 2 2, .pointer (some ⟨w.heap.size, 0, none⟩), .pointer (some ⟨w.heap.size + 1, 0, none⟩), .pointer (some ⟨w4.heap.size, 0, none⟩)] (W.alloc (.cells #[.int .i64 1, .string ⟨#[78, 79, 84]⟩, .slice none 0 0, .int .i64 3, .string ⟨#[]⟩, .slice aa a.length ac] 41)) fun e w' => e = .returned (.tuple #[.bool vN, .bool oN]) ∧ Below W.heap.size W w' := fun W hW => by
      have y0 := (Below.refl W.heap.size W).alloc (Nat.le_refl _) (.cells #[.int .i64 1, .string ⟨#[78, 79, 84]⟩, .slice none 0 0, .int .i64 3, .string ⟨#[]⟩, .slice aa a.length ac] 41)
      have s0 := alloc_size W (.cells #[.int .i64 1, .string ⟨#[78, 79, 84]⟩, .slice none 0 0, .int .i64 3, .string ⟨#[]⟩, .slice aa a.length ac] 41)
      have hW1 := hW.trans (y0.mono hW.size)
      have hr := hearA_any x fv hl hx _ _ w.heap.size (w.heap.size + 1) w4.heap.size _ (HH.out _ hW1) (readsK_row (rs := [(atomW [78, 79, 84], .slice none 0 0), (listW a, .slice aa a.length ac)]) (World.heap_alloc_new W _) rfl (by rw [s0]; exact Nat.lt_succ_self _) (by simp) (fun x hx => ?h1) (fun x hx => ?h2) 2 (by rfl))
      case h1 =>
        simp only [List.mem_cons, List.not_mem_nil, or_false] at hx
        rcases hx with rfl | rfl <;> simp [Wd.text, atomW, listW]
      case h2 =>
        simp only [List.mem_cons, List.not_mem_nil, or_false] at hx
        rcases hx with rfl | rfl
        · exact readsK_nil _ _
        · exact (HA _ hW1).more (by have := hW1.size; omega)
      refine hr.mono ?_
      rintro e w' ⟨rfl, h⟩
      exact ⟨by rw [← HVN.out, ← HON.out]; rfl, y0.trans (h.mono y0.size)⟩
    have cAnd : ∀ W, Below w1.heap.size w1 W → Calls Tryz.prog 6 #[.slice (some ⟨W.heap.size, 0, none⟩) 2 2, .pointer (some ⟨w.heap.size, 0, none⟩), .pointer (some ⟨w.heap.size + 1, 0, none⟩), .pointer (some ⟨w4.heap.size, 0, none⟩)] (W.alloc (.cells #[.int .i64 3, .string ⟨#[]⟩, .slice aa a.length ac, .int .i64 3, .string ⟨#[]⟩, .slice ba b.length bc] 41)) fun e w' => e = .returned (.tuple #[.bool vD, .bool oD]) ∧ Below W.heap.size W w' := fun W hW => by
      have y0 := (Below.refl W.heap.size W).alloc (Nat.le_refl _) (.cells #[.int .i64 3, .string ⟨#[]⟩, .slice aa a.length ac, .int .i64 3, .string ⟨#[]⟩, .slice ba b.length bc] 41)
      have s0 := alloc_size W (.cells #[.int .i64 3, .string ⟨#[]⟩, .slice aa a.length ac, .int .i64 3, .string ⟨#[]⟩, .slice ba b.length bc] 41)
      have hW1 := hW.trans (y0.mono hW.size)
      have hr := hearA_any x fv hl hx _ _ w.heap.size (w.heap.size + 1) w4.heap.size _ (HH.out _ hW1) (readsK_row (rs := [(listW a, .slice aa a.length ac), (listW b, .slice ba b.length bc)]) (World.heap_alloc_new W _) rfl (by rw [s0]; exact Nat.lt_succ_self _) (by simp) (fun x hx => ?h1) (fun x hx => ?h2) 2 (by rfl))
      case h1 =>
        simp only [List.mem_cons, List.not_mem_nil, or_false] at hx
        rcases hx with rfl | rfl <;> simp [Wd.text, atomW, listW]
      case h2 =>
        simp only [List.mem_cons, List.not_mem_nil, or_false] at hx
        rcases hx with rfl | rfl
        · exact (HA _ hW1).more (by have := hW1.size; omega)
        · exact (HB _ hW1).more (by have := hW1.size; omega)
      refine hr.mono ?_
      rintro e w' ⟨rfl, h⟩
      exact ⟨by rw [← HVD.out, ← HOD.out]; rfl, y0.trans (h.mono y0.size)⟩
    have cDna : ∀ W, Below w1.heap.size w1 W → Calls Tryz.prog 6 #[.slice (some ⟨W.heap.size, 0, none⟩) 2 2, .pointer (some ⟨w.heap.size, 0, none⟩), .pointer (some ⟨w.heap.size + 1, 0, none⟩), .pointer (some ⟨w4.heap.size, 0, none⟩)] (W.alloc (.cells #[.int .i64 3, .string ⟨#[]⟩, .slice ba b.length bc, .int .i64 3, .string ⟨#[]⟩, .slice aa a.length ac] 41)) fun e w' => e = .returned (.tuple #[.bool vE, .bool oE]) ∧ Below W.heap.size W w' := fun W hW => by
      have y0 := (Below.refl W.heap.size W).alloc (Nat.le_refl _) (.cells #[.int .i64 3, .string ⟨#[]⟩, .slice ba b.length bc, .int .i64 3, .string ⟨#[]⟩, .slice aa a.length ac] 41)
      have s0 := alloc_size W (.cells #[.int .i64 3, .string ⟨#[]⟩, .slice ba b.length bc, .int .i64 3, .string ⟨#[]⟩, .slice aa a.length ac] 41)
      have hW1 := hW.trans (y0.mono hW.size)
      have hr := hearA_any x fv hl hx _ _ w.heap.size (w.heap.size + 1) w4.heap.size _ (HH.out _ hW1) (readsK_row (rs := [(listW b, .slice ba b.length bc), (listW a, .slice aa a.length ac)]) (World.heap_alloc_new W _) rfl (by rw [s0]; exact Nat.lt_succ_self _) (by simp) (fun x hx => ?h1) (fun x hx => ?h2) 2 (by rfl))
      case h1 =>
        simp only [List.mem_cons, List.not_mem_nil, or_false] at hx
        rcases hx with rfl | rfl <;> simp [Wd.text, atomW, listW]
      case h2 =>
        simp only [List.mem_cons, List.not_mem_nil, or_false] at hx
        rcases hx with rfl | rfl
        · exact (HB _ hW1).more (by have := hW1.size; omega)
        · exact (HA _ hW1).more (by have := hW1.size; omega)
      refine hr.mono ?_
      rintro e w' ⟨rfl, h⟩
      exact ⟨by rw [← HVE.out, ← HOE.out]; rfl, y0.trans (h.mono y0.size)⟩
    have cOr : ∀ W, Below w1.heap.size w1 W → Calls Tryz.prog 6 #[.slice (some ⟨W.heap.size, 0, none⟩) 3 3, .pointer (some ⟨w.heap.size, 0, none⟩), .pointer (some ⟨w.heap.size + 1, 0, none⟩), .pointer (some ⟨w4.heap.size, 0, none⟩)] (W.alloc (.cells #[.int .i64 1, .string ⟨#[111, 114]⟩, .slice none 0 0, .int .i64 3, .string ⟨#[]⟩, .slice aa a.length ac, .int .i64 3, .string ⟨#[]⟩, .slice ba b.length bc] 41)) fun e w' => e = .returned (.tuple #[.bool vO, .bool oO]) ∧ Below W.heap.size W w' := fun W hW => by
      have y0 := (Below.refl W.heap.size W).alloc (Nat.le_refl _) (.cells #[.int .i64 1, .string ⟨#[111, 114]⟩, .slice none 0 0, .int .i64 3, .string ⟨#[]⟩, .slice aa a.length ac, .int .i64 3, .string ⟨#[]⟩, .slice ba b.length bc] 41)
      have s0 := alloc_size W (.cells #[.int .i64 1, .string ⟨#[111, 114]⟩, .slice none 0 0, .int .i64 3, .string ⟨#[]⟩, .slice aa a.length ac, .int .i64 3, .string ⟨#[]⟩, .slice ba b.length bc] 41)
      have hW1 := hW.trans (y0.mono hW.size)
      have hr := hearA_any x fv hl hx _ _ w.heap.size (w.heap.size + 1) w4.heap.size _ (HH.out _ hW1) (readsK_row (rs := [(atomW [111, 114], .slice none 0 0), (listW a, .slice aa a.length ac), (listW b, .slice ba b.length bc)]) (World.heap_alloc_new W _) rfl (by rw [s0]; exact Nat.lt_succ_self _) (by simp) (fun x hx => ?h1) (fun x hx => ?h2) 3 (by rfl))
      case h1 =>
        simp only [List.mem_cons, List.not_mem_nil, or_false] at hx
        rcases hx with rfl | rfl | rfl <;> simp [Wd.text, atomW, listW]
      case h2 =>
        simp only [List.mem_cons, List.not_mem_nil, or_false] at hx
        rcases hx with rfl | rfl | rfl
        · exact readsK_nil _ _
        · exact (HA _ hW1).more (by have := hW1.size; omega)
        · exact (HB _ hW1).more (by have := hW1.size; omega)
      refine hr.mono ?_
      rintro e w' ⟨rfl, h⟩
      exact ⟨by rw [← HVO.out, ← HOO.out]; rfl, y0.trans (h.mono y0.size)⟩
    have cAll : ∀ W, Below w1.heap.size w1 W → Calls Tryz.prog 6 #[.slice (some ⟨W.heap.size, 0, none⟩) 1 1, .pointer (some ⟨w.heap.size, 0, none⟩), .pointer (some ⟨w.heap.size + 1, 0, none⟩), .pointer (some ⟨w4.heap.size, 0, none⟩)] (W.alloc (.cells #[.int .i64 1, .string ⟨#[97, 108, 108]⟩, .slice none 0 0] 41)) fun e w' => e = .returned (.tuple #[.bool vL, .bool oL]) ∧ Below W.heap.size W w' := fun W hW => by
      have y0 := (Below.refl W.heap.size W).alloc (Nat.le_refl _) (.cells #[.int .i64 1, .string ⟨#[97, 108, 108]⟩, .slice none 0 0] 41)
      have s0 := alloc_size W (.cells #[.int .i64 1, .string ⟨#[97, 108, 108]⟩, .slice none 0 0] 41)
      have hW1 := hW.trans (y0.mono hW.size)
      have hr := hearA_any x fv hl hx _ _ w.heap.size (w.heap.size + 1) w4.heap.size _ (HH.out _ hW1) (readsK_row (rs := [(atomW [97, 108, 108], .slice none 0 0)]) (World.heap_alloc_new W _) rfl (by rw [s0]; exact Nat.lt_succ_self _) (by simp) (fun x hx => ?h1) (fun x hx => ?h2) 1 (by rfl))
      case h1 =>
        simp only [List.mem_cons, List.not_mem_nil, or_false] at hx
        rcases hx with rfl <;> simp [Wd.text, atomW, listW]
      case h2 =>
        simp only [List.mem_cons, List.not_mem_nil, or_false] at hx
        rcases hx with rfl
        · exact readsK_nil _ _
      refine hr.mono ?_
      rintro e w' ⟨rfl, h⟩
      exact ⟨by rw [← HVL.out, ← HOL.out]; rfl, y0.trans (h.mono y0.size)⟩
    have cNone : ∀ W (g : Nat), Below w1.heap.size w1 W → ReadsK W W.heap.size (.slice (some ⟨g, 0, none⟩) 3 3) [atomW [79, 82], listW a, listW b] → Calls Tryz.prog 6 #[.slice (some ⟨W.heap.size, 0, none⟩) 2 2, .pointer (some ⟨w.heap.size, 0, none⟩), .pointer (some ⟨w.heap.size + 1, 0, none⟩), .pointer (some ⟨w4.heap.size, 0, none⟩)] (W.alloc (.cells #[.int .i64 1, .string ⟨#[78, 79, 84]⟩, .slice none 0 0, .int .i64 3, .string ⟨#[]⟩, .slice (some ⟨g, 0, none⟩) 3 3] 41)) fun e w' => e = .returned (.tuple #[.bool vX, .bool oX]) ∧ Below W.heap.size W w' := fun W g hW hg => by
      have y0 := (Below.refl W.heap.size W).alloc (Nat.le_refl _) (.cells #[.int .i64 1, .string ⟨#[78, 79, 84]⟩, .slice none 0 0, .int .i64 3, .string ⟨#[]⟩, .slice (some ⟨g, 0, none⟩) 3 3] 41)
      have s0 := alloc_size W (.cells #[.int .i64 1, .string ⟨#[78, 79, 84]⟩, .slice none 0 0, .int .i64 3, .string ⟨#[]⟩, .slice (some ⟨g, 0, none⟩) 3 3] 41)
      have hW1 := hW.trans (y0.mono hW.size)
      have hr := hearA_any x fv hl hx _ _ w.heap.size (w.heap.size + 1) w4.heap.size _ (HH.out _ hW1) (readsK_row (rs := [(atomW [78, 79, 84], .slice none 0 0), (listW [atomW [79, 82], listW a, listW b], .slice (some ⟨g, 0, none⟩) 3 3)]) (World.heap_alloc_new W _) rfl (by rw [s0]; exact Nat.lt_succ_self _) (by simp) (fun x hx => ?h1) (fun x hx => ?h2) 2 (by rfl))
      case h1 =>
        simp only [List.mem_cons, List.not_mem_nil, or_false] at hx
        rcases hx with rfl | rfl <;> simp [Wd.text, atomW, listW]
      case h2 =>
        simp only [List.mem_cons, List.not_mem_nil, or_false] at hx
        rcases hx with rfl | rfl
        · exact readsK_nil _ _
        · exact (hg.under (y0.mono (Nat.le_refl _))).more (by omega)
      refine hr.mono ?_
      rintro e w' ⟨rfl, h⟩
      exact ⟨by rw [← HVX.out, ← HOX.out]; rfl, y0.trans (h.mono y0.size)⟩
    have cNoneL : ∀ W, Below w1.heap.size w1 W → Calls Tryz.prog 10 #[.slice (some ⟨W.heap.size, 0, none⟩) 3 3] (W.alloc (.cells #[.int .i64 1, .string ⟨#[79, 82]⟩, .slice none 0 0, .int .i64 3, .string ⟨#[]⟩, .slice aa a.length ac, .int .i64 3, .string ⟨#[]⟩, .slice ba b.length bc] 41)) fun e w' => e = .returned (.agg #[.int .i64 3, .string ⟨#[]⟩, .slice (some ⟨W.heap.size, 0, none⟩) 3 3]) ∧ Hid (ReadsK w' w'.heap.size (.slice (some ⟨W.heap.size, 0, none⟩) 3 3) [atomW [79, 82], listW a, listW b]) ∧ Below W.heap.size W w' := fun W hW => by
      have y0 := (Below.refl W.heap.size W).alloc (Nat.le_refl _) (.cells #[.int .i64 1, .string ⟨#[79, 82]⟩, .slice none 0 0, .int .i64 3, .string ⟨#[]⟩, .slice aa a.length ac, .int .i64 3, .string ⟨#[]⟩, .slice ba b.length bc] 41)
      have s0 := alloc_size W (.cells #[.int .i64 1, .string ⟨#[79, 82]⟩, .slice none 0 0, .int .i64 3, .string ⟨#[]⟩, .slice aa a.length ac, .int .i64 3, .string ⟨#[]⟩, .slice ba b.length bc] 41)
      have hW1 := hW.trans (y0.mono hW.size)
      have hr := readsK_row (rs := [(atomW [79, 82], .slice none 0 0), (listW a, .slice aa a.length ac), (listW b, .slice ba b.length bc)]) (World.heap_alloc_new W (.cells #[.int .i64 1, .string ⟨#[79, 82]⟩, .slice none 0 0, .int .i64 3, .string ⟨#[]⟩, .slice aa a.length ac, .int .i64 3, .string ⟨#[]⟩, .slice ba b.length bc] 41)) rfl (show W.heap.size < (W.alloc (.cells #[.int .i64 1, .string ⟨#[79, 82]⟩, .slice none 0 0, .int .i64 3, .string ⟨#[]⟩, .slice aa a.length ac, .int .i64 3, .string ⟨#[]⟩, .slice ba b.length bc] 41)).heap.size by rw [s0]; exact Nat.lt_succ_self _) (by simp) (fun x hx => ?h1) (fun x hx => ?h2) 3 (by rfl)
      case h1 =>
        simp only [List.mem_cons, List.not_mem_nil, or_false] at hx
        rcases hx with rfl | rfl | rfl <;> simp [Wd.text, atomW, listW]
      case h2 =>
        simp only [List.mem_cons, List.not_mem_nil, or_false] at hx
        rcases hx with rfl | rfl | rfl
        · exact readsK_nil _ _
        · exact (HA _ hW1).more (by have := hW1.size; omega)
        · exact (HB _ hW1).more (by have := hW1.size; omega)
      refine (listA_any _ _ _ _).mono ?_
      rintro e w' ⟨rfl, h⟩
      exact ⟨rfl, Lib.hid ((hr.under h).more h.size), y0.trans (h.mono y0.size)⟩
    clear H1 HA1 HB1 HA HB hl hx h500 H1h HF0 HA0 HB0 HG0
    go_upto_region 11 with (first
      | (go_at_call 6; ((with_reducible refine cA.mono ?_); rintro e w5 ⟨rfl, h5⟩; have cB1 := cB w5 h5; clear cA))
      | (go_at_call 6; ((with_reducible refine cB1.mono ?_); rintro e w6 ⟨rfl, h6⟩; clear cB1)))
    have y := h5.trans (h6.mono h5.size)
    clear h5 h6 cB
    cases oA with
    | false =>
      go_wp2_with fail
      go_ret
      exact ⟨rfl, y5.trans (y.mono y5.size)⟩
    | true =>
      cases oB with
      | false =>
        go_wp2_with fail
        go_ret
        exact ⟨rfl, y5.trans (y.mono y5.size)⟩
      | true =>
        go_upto_region 18 with (first
          | (go_at_call 9; ((with_reducible refine (wordA_any _ _).mono ?_); rintro e u ⟨rfl, h⟩; have y := y.trans (h.mono y.size)))
          | (go_at_call 10; ((with_reducible refine (cNoneL _ y).mono ?_); rintro e u ⟨rfl, hg, h⟩; have y := y.trans (h.mono y.size); have hq := hg.out))
          | (go_at_call 10; ((with_reducible refine (listA_any _ _ _ _).mono ?_); rintro e u ⟨rfl, h⟩; have y := y.trans (h.mono y.size)))
          | (go_at_call 6; ((with_reducible refine (cNot _ y).mono ?_); rintro e u ⟨rfl, h⟩; have y := y.trans (h.mono y.size)))
          | (go_at_call 6; ((with_reducible refine (cAnd _ y).mono ?_); rintro e u ⟨rfl, h⟩; have y := y.trans (h.mono y.size)))
          | (go_at_call 6; ((with_reducible refine (cDna _ y).mono ?_); rintro e u ⟨rfl, h⟩; have y := y.trans (h.mono y.size)))
          | (go_at_call 6; ((with_reducible refine (cOr _ y).mono ?_); rintro e u ⟨rfl, h⟩; have y := y.trans (h.mono y.size)))
          | (go_at_call 6; ((with_reducible refine (cNone _ _ y hq).mono ?_); rintro e u ⟨rfl, h⟩; have y := y.trans (h.mono y.size)))
          )
        cases oN with
        | false => go_wp2_with fail; go_ret; exact ⟨rfl, y5.trans (y.mono y5.size)⟩
        | true =>
          cases oD with
          | false => go_wp2_with fail; go_ret; exact ⟨rfl, y5.trans (y.mono y5.size)⟩
          | true =>
            cases oE with
            | false => go_wp2_with fail; go_ret; exact ⟨rfl, y5.trans (y.mono y5.size)⟩
            | true =>
              cases oO with
              | false => go_wp2_with fail; go_ret; exact ⟨rfl, y5.trans (y.mono y5.size)⟩
              | true =>
                cases oX with
                | false => go_wp2_with fail; go_ret; exact ⟨rfl, y5.trans (y.mono y5.size)⟩
                | true =>
                  have e1 : vN = !vA := by rw [← HVN.out, ← HVA.out]; exact fact_not x HOA.out HON.out
                  have e2 : vD = (vA && vB) := by rw [← HVD.out, ← HVA.out, ← HVB.out]; exact fact_and x HOA.out HOB.out HOD.out
                  have e3 : vE = (vA && vB) := by rw [← HVE.out, ← HVA.out, ← HVB.out, Bool.and_comm]; exact fact_and x HOB.out HOA.out HOE.out
                  have e4 : vO = (vA || vB) := by rw [← HVO.out, ← HVA.out, ← HVB.out]; exact fact_or x HOA.out HOB.out HOO.out
                  have e5 : vX = !(vA || vB) := by rw [← HVX.out, ← HVA.out, ← HVB.out]; exact fact_none x HOA.out HOB.out HOX.out
                  have e6 : vL = true := by rw [← HVL.out, hear_key law_all]; simp [holdsK]
                  have e7 : oL = true := by rw [← HOL.out]; unfold okP; rw [law_all]
                  subst e1 e2 e3 e4 e5 e6 e7
                  cases vA with
                  | false =>
                    cases vB with
                    | false => go_wp2_with (first | (go_at_call 9; ((with_reducible refine (wordA_any _ _).mono ?_); rintro e u ⟨rfl, h⟩; have y := y.trans (h.mono y.size))) | (go_at_call 6; ((with_reducible refine (cAll _ y).mono ?_); rintro e u ⟨rfl, h⟩; have y := y.trans (h.mono y.size)))); go_ret; exact ⟨rfl, y5.trans (y.mono y5.size)⟩
                    | true => go_wp2_with (first | (go_at_call 9; ((with_reducible refine (wordA_any _ _).mono ?_); rintro e u ⟨rfl, h⟩; have y := y.trans (h.mono y.size))) | (go_at_call 6; ((with_reducible refine (cAll _ y).mono ?_); rintro e u ⟨rfl, h⟩; have y := y.trans (h.mono y.size)))); go_ret; exact ⟨rfl, y5.trans (y.mono y5.size)⟩
                  | true =>
                    cases vB with
                    | false => go_wp2_with (first | (go_at_call 9; ((with_reducible refine (wordA_any _ _).mono ?_); rintro e u ⟨rfl, h⟩; have y := y.trans (h.mono y.size))) | (go_at_call 6; ((with_reducible refine (cAll _ y).mono ?_); rintro e u ⟨rfl, h⟩; have y := y.trans (h.mono y.size)))); go_ret; exact ⟨rfl, y5.trans (y.mono y5.size)⟩
                    | true => go_wp2_with (first | (go_at_call 9; ((with_reducible refine (wordA_any _ _).mono ?_); rintro e u ⟨rfl, h⟩; have y := y.trans (h.mono y.size))) | (go_at_call 6; ((with_reducible refine (cAll _ y).mono ?_); rintro e u ⟨rfl, h⟩; have y := y.trans (h.mono y.size)))); go_ret; exact ⟨rfl, y5.trans (y.mono y5.size)⟩
end Go.Proofs.YtmhidmkomljjjaaGreatDoor
