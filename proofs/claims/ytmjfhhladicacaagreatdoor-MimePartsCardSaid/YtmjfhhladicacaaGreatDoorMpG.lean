/- The walk over the reference's PrintPart: it returns what the plain function says. Conditions: strconv's table of powers lies as the program's text lays it. -/
import Derived.Test.YtmjfhhladicacaaGreatDoorMpF
import Derived.Test.YtmjfhhladicacaaGreatDoorMimeG
import Derived.Lib.ItoaNum
namespace Go.Proofs.YtmjfhhladicacaaGreatDoor
open Go.RowKit Go.Shelf Go.Sort

theorem var_below {w w' : World} {n : String} {cs : Array Value} (h : w.var? Tryz.prog n = some cs) (hb : Below w.heap.size w w') : w'.var? Tryz.prog n = some cs := by
  unfold World.var? at h ⊢
  cases hg : Tryz.prog.globalNamed n with
  | none => rw [hg] at h; simp at h
  | some g =>
    rw [hg] at h
    simp only [Option.bind_some, Option.bind_eq_bind] at h ⊢
    cases ho : w.heap[g]? with
    | none => simp [ho] at h
    | some o =>
      rw [below_same hb ho]
      simpa [ho] using h
def TabW (w : World) : Prop := Lib.TabIs Tryz.prog w "internal/strconv.uint64pow10" .u64 Lib.pow10Tab
theorem TabW.below {w w' : World} (h : TabW w) (hb : Below w.heap.size w w') : TabW w' := var_below h hb
theorem num_dec (n : Nat) : numL n = Lib.decDigits n := by
  induction n using Nat.strongRecOn with
  | ind n ih =>
    rw [Lib.decDigits]
    unfold numL
    split
    · rfl
    · rw [ih (n / 10) (by omega)]
theorem sitoa_any (n : Nat) (w : World) (h1 : n ≤ 1000000000) (hT : TabW w) :
    Calls Tryz.prog 21 #[.int .i64 (n : Int)] w fun e w' => e = .returned (.string ⟨(numL n).toArray⟩) ∧ Below w.heap.size w w' := by
  have e : Lib.itoa (n : Int) = numL n := by
    unfold Lib.itoa
    rw [if_neg (by omega), Int.toNat_natCast, num_dec]
  refine (Tryz.strconv_Itoa (n : Int) (by omega) (by omega) w hT).mono ?_
  rw [e]
  rintro e w' ⟨rfl, k, os, rfl⟩
  refine ⟨rfl, rfl, rfl, rfl, ?_, ?_⟩
  · simp [grow]
  · intro j hj
    show (w.heap ++ os)[j]? = w.heap[j]?
    exact Array.getElem?_append_left hj

set_option maxRecDepth 100000 in
set_option maxHeartbeats 8000000 in
/-- PrintPart of what has no parts -/
theorem rtell_leaf (g : Nat) (p : PT) (ao : Option Addr) (cap : Nat) (w : World) (hF : Fine (g + 1) p) (h0 : p.ps.length = 0) (hT : TabW w) :
    Calls Tryz.prog 11 #[aggP p ao cap] w fun e w' => e = .returned (.string ⟨(tellF (g + 1) p).toArray⟩) ∧ Below w.heap.size w w' := by
  obtain ⟨h1, h2, h3, h4, _, _⟩ := hF
  rw [tell_leaf h0]
  rw [aggP, h0]
  clear h0
  obtain ⟨ty, bd, fr, te, ln, ps⟩ := p
  simp only [PT.ty, PT.bd, PT.fr, PT.to, PT.ln] at h1 h2 h3 h4 ⊢
  obtain ⟨d, hd⟩ : ∃ d, te - fr = d := ⟨_, rfl⟩
  rw [hd]
  have hdz : (te : Int) - (fr : Int) = (d : Int) := by omega
  have hd9 : d ≤ 9000 := by omega
  have cL := fun W hW => sitoa_any ln W (by omega) hW
  have cD := fun W hW => sitoa_any d W (by omega) hW
  have nl := num_len ln
  have nd := num_len d
  obtain ⟨q1, hq1⟩ : ∃ q1, q1 = [40, 34] ++ ty := ⟨_, rfl⟩
  obtain ⟨q2, hq2⟩ : ∃ q2, q2 = q1 ++ [34, 32] := ⟨_, rfl⟩
  obtain ⟨q3, hq3⟩ : ∃ q3, q3 = q2 ++ numL ln := ⟨_, rfl⟩
  obtain ⟨q4, hq4⟩ : ∃ q4, q4 = q3 ++ [32] := ⟨_, rfl⟩
  obtain ⟨q5, hq5⟩ : ∃ q5, q5 = q4 ++ numL d := ⟨_, rfl⟩
  obtain ⟨q6, hq6⟩ : ∃ q6, q6 = q5 ++ [41] := ⟨_, rfl⟩
  have a1 : (⟨#[40, 34]⟩ : ByteArray) ++ ⟨ty.toArray⟩ = ⟨q1.toArray⟩ := by rw [hq1]; exact text_cat _ _
  have a2 : (⟨q1.toArray⟩ : ByteArray) ++ ⟨#[34, 32]⟩ = ⟨q2.toArray⟩ := by rw [hq2]; exact text_cat _ _
  have a3 : (⟨q2.toArray⟩ : ByteArray) ++ ⟨(numL ln).toArray⟩ = ⟨q3.toArray⟩ := by rw [hq3]; exact text_cat _ _
  have a4 : (⟨q3.toArray⟩ : ByteArray) ++ ⟨#[32]⟩ = ⟨q4.toArray⟩ := by rw [hq4]; exact text_cat _ _
  have a5 : (⟨q4.toArray⟩ : ByteArray) ++ ⟨(numL d).toArray⟩ = ⟨q5.toArray⟩ := by rw [hq5]; exact text_cat _ _
  have a6 : (⟨q5.toArray⟩ : ByteArray) ++ ⟨#[41]⟩ = ⟨q6.toArray⟩ := by rw [hq6]; exact text_cat _ _
  rw [← hq1, ← hq2, ← hq3, ← hq4, ← hq5, ← hq6]
  have l1 : q1.length ≤ 60002 := by rw [hq1, List.length_append]; show 2 + _ ≤ _; omega
  have l2 : q2.length ≤ 60004 := by rw [hq2, List.length_append]; show _ + 2 ≤ _; omega
  have l3 : q3.length ≤ 80004 := by rw [hq3, List.length_append]; omega
  have l4 : q4.length ≤ 80005 := by rw [hq4, List.length_append]; show _ + 1 ≤ _; omega
  have l5 : q5.length ≤ 90006 := by rw [hq5, List.length_append]; omega
  have t0 := text_size ty
  have t1 := text_size q1
  have t2 := text_size q2
  have t3 := text_size q3
  have t4 := text_size q4
  have t5 := text_size q5
  have tl := text_size (numL ln)
  have td := text_size (numL d)
  have z1 : ¬(9223372036854775807 < 2 + ty.length) := by omega
  have z2 : ¬(9223372036854775807 < q1.length + 2) := by omega
  have z3 : ¬(9223372036854775807 < q2.length + (numL ln).length) := by omega
  have z4 : ¬(9223372036854775807 < q3.length + 1) := by omega
  have z5 : ¬(9223372036854775807 < q4.length + (numL d).length) := by omega
  have z6 : ¬(9223372036854775807 < q5.length + 1) := by omega
  have hwd : IntKind.i64.wrap (d : Int) = (d : Int) := IntWalk.i64_in _ (by omega)
  clear hq1 hq2 hq3 hq4 hq5 hq6 hd
  go_enter Tryz.func11, Tryz.ntmps11
  go_wp2_with fail
  have y : Below w.heap.size w (w.alloc (.cells #[.string ⟨ty.toArray⟩, .string ⟨bd.toArray⟩, .int .i64 (fr : Int), .int .i64 (te : Int), .int .i64 (ln : Int), .slice ao 0 cap] 25)).drew := ((Below.refl _ _).alloc (Nat.le_refl _) _).drew
  have u : (w.alloc (.cells #[.string ⟨ty.toArray⟩, .string ⟨bd.toArray⟩, .int .i64 (fr : Int), .int .i64 (te : Int), .int .i64 (ln : Int), .slice ao 0 cap] 25)).drew.heap[w.heap.size]? = some (.cells #[.string ⟨ty.toArray⟩, .string ⟨bd.toArray⟩, .int .i64 (fr : Int), .int .i64 (te : Int), .int .i64 (ln : Int), .slice ao 0 cap] 25 (0, 0)) := World.heap_alloc_new w _
  go_region_held3 (fun W => W.cell? ⟨w.heap.size, 0, none⟩ = some (.string ⟨ty.toArray⟩) ∧ W.cell? ⟨w.heap.size, 2, none⟩ = some (.int .i64 (fr : Int)) ∧ W.cell? ⟨w.heap.size, 3, none⟩ = some (.int .i64 (te : Int)) ∧ W.cell? ⟨w.heap.size, 4, none⟩ = some (.int .i64 (ln : Int)) ∧ Below w.heap.size w W)
    (first | exact ⟨(six_cells u).1, (six_cells u).2.2.1, (six_cells u).2.2.2.1, (six_cells u).2.2.2.2.1, y⟩)
    (first
      | (go_at_call 21; with_reducible refine (cL _ (hT.below y)).mono ?_; rintro e w1 ⟨rfl, h1⟩; have y := y.trans (h1.mono y.size); have u := below_same h1 u)
      | (go_at_call 21; with_reducible refine (cD _ (hT.below y)).mono ?_; rintro e w2 ⟨rfl, h2⟩; have y := y.trans (h2.mono y.size); have u := below_same h2 u))
  go_wp2_with fail
  go_ret
  exact ⟨rfl, y⟩

set_option maxRecDepth 100000 in
set_option maxHeartbeats 16000000 in
theorem rtell_any : ∀ (g : Nat) (p : PT) (ao : Option Addr) (cap : Nat) (w : World) (ok : Nat → Prop), g ≤ 7 → Fine g p → Reads w ok (.slice ao p.ps.length cap) p.ps → TabW w →
    Calls Tryz.prog 11 #[aggP p ao cap] w fun e w' => e = .returned (.string ⟨(tellF g p).toArray⟩) ∧ Below w.heap.size w w'
  | 0, p, ao, cap, w, ok, _, h, _, _ => h.elim
  | g + 1, p, ao, cap, w, ok, hg7, h, hR, hT => by
    by_cases h0 : p.ps.length = 0
    · exact rtell_leaf g p ao cap w h h0 hT
    have IH := rtell_any g
    rw [tell_node h0]
    obtain ⟨_, _, _, hty, hlen, hkids⟩ := h
    have hbnd := kids_len hkids hlen
    have hB7 := tellB_le (g := g + 1) hg7
    have hBe : tellB (g + 1) = 30 * (tellB g + 1) + 100000 := rfl
    obtain ⟨ty, bd, fr, te, ln, ps⟩ := p
    simp only [PT.ty, PT.bd, PT.fr, PT.to, PT.ln, PT.ps] at hlen hkids hR hty h0 hbnd ⊢
    show Calls _ _ #[.agg #[.string ⟨ty.toArray⟩, .string ⟨bd.toArray⟩, .int .i64 (fr : Int), .int .i64 (te : Int), .int .i64 (ln : Int), .slice ao ps.length cap]] _ _
    have HR := Lib.hid hR
    have HBN := Lib.hid hbnd
    have HB := Lib.hid (show 30 * (tellB g + 1) ≤ 100000000000000 by omega)
    clear hR hbnd hB7 hBe
    have u := World.heap_alloc_new w (.cells #[.string ⟨ty.toArray⟩, .string ⟨bd.toArray⟩, .int .i64 (fr : Int), .int .i64 (te : Int), .int .i64 (ln : Int), .slice ao ps.length cap] 25)
    have y := (Below.refl w.heap.size w).alloc (Nat.le_refl _) (.cells #[.string ⟨ty.toArray⟩, .string ⟨bd.toArray⟩, .int .i64 (fr : Int), .int .i64 (te : Int), .int .i64 (ln : Int), .slice ao ps.length cap] 25)
    have hLz : ((ps.length : Int) == 0) = false := by rw [beq_eq_false_iff_ne]; omega
    go_enter Tryz.func11, Tryz.ntmps11
    go_wp2_with fail
    go_loopg [3, 30] ps.length (fun g3 s3 s30 wr => ∃ (k : Nat) (Z : List UInt8), k + g3 = ps.length ∧ s30 = .int .i64 (k : Int) ∧ s3 = .string ⟨Z.toArray⟩ ∧ Hid (Z = [40] ++ kidsF g (ps.take k)) ∧ Below w.heap.size w wr ∧
      wr.heap[w.heap.size]? = some (.cells #[.string ⟨ty.toArray⟩, .string ⟨bd.toArray⟩, .int .i64 (fr : Int), .int .i64 (te : Int), .int .i64 (ln : Int), .slice ao ps.length cap] 25 (0, 0)))
    case atStart => exact ⟨0, [40], by omega, rfl, rfl, rfl, y, u⟩
    case round =>
      obtain ⟨k, Z, hk, rfl, rfl, HZ, hbr, hbx⟩ := hrel
      clear u y
      have x0 := (six_cells hbx).1
      have hb1 := HBN.out k
      have hb3 := HB.out
      have hZl : Z.length ≤ 100000000000001 := by rw [HZ.out, List.length_append]; show 1 + _ ≤ _; omega
      have tZ := text_size Z
      by_cases hlt : k < ps.length
      · obtain ⟨g', rfl⟩ : ∃ g', gk = g' + 1 := ⟨gk - 1, by omega⟩
        obtain ⟨q, hq⟩ : ∃ q, ps[k]? = some q := ⟨ps[k], List.getElem?_eq_getElem hlt⟩
        have hRr := reads_keep (W' := wr) (ok' := ok) HR.out hbr.size (fun j _ hj => hbr.block j hj) (fun _ h _ => h)
        obtain ⟨gb, n0, cap0, aj, cj, he, hgb, _, d0, d1, d2, d3, d4, d5, hq5⟩ := reads_at hRr k q hq
        cases he
        have hbd : gb ≠ wr.heap.size := Nat.ne_of_lt hgb
        have hRa := reads_below hq5 ((Below.refl wr.heap.size wr).alloc (Nat.le_refl _) (.cells #[.string ⟨q.ty.toArray⟩, .string ⟨q.bd.toArray⟩, .int .i64 (q.fr : Int), .int .i64 (q.to : Int), .int .i64 (q.ln : Int), .slice aj q.ps.length cj] 25))
        have y0 := hbr.alloc hbr.size (.cells #[.string ⟨q.ty.toArray⟩, .string ⟨q.bd.toArray⟩, .int .i64 (q.fr : Int), .int .i64 (q.to : Int), .int .i64 (q.ln : Int), .slice aj q.ps.length cj] 25)
        have cI := IH q aj cj _ ok (by omega) (hkids q (List.mem_of_getElem? hq)) hRa (hT.below y0)
        have ub := alloc_at (o := .cells #[.string ⟨q.ty.toArray⟩, .string ⟨q.bd.toArray⟩, .int .i64 (q.fr : Int), .int .i64 (q.to : Int), .int .i64 (q.ln : Int), .slice aj q.ps.length cj] 25) hbx
        have xb := World.heap_alloc_new wr (.cells #[.string ⟨q.ty.toArray⟩, .string ⟨q.bd.toArray⟩, .int .i64 (q.fr : Int), .int .i64 (q.to : Int), .int .i64 (q.ln : Int), .slice aj q.ps.length cj] 25)
        have u0 := (six_cells xb).1
        have u1 := (six_cells xb).2.1
        have u2 := (six_cells xb).2.2.1
        have u3 := (six_cells xb).2.2.2.1
        have u4 := (six_cells xb).2.2.2.2.1
        have u5 := (six_cells xb).2.2.2.2.2
        have hst := kids_tell (g := g) hq
        have hb2 := HBN.out (k + 1)
        obtain ⟨Y, hY⟩ : ∃ Y, tellF g q ++ [32] = Y := ⟨_, rfl⟩
        have a1 : (⟨(tellF g q).toArray⟩ : ByteArray) ++ ⟨#[32]⟩ = ⟨Y.toArray⟩ := by rw [← hY]; exact text_cat _ _
        rw [hY] at hst
        have hYl : Y.length ≤ 100000000000000 := by rw [hst, List.length_append] at hb2; omega
        have t1 := text_size (tellF g q)
        have tY := text_size Y
        have hTl : (tellF g q).length ≤ 100000000000000 := by rw [← hY, List.length_append] at hYl; omega
        obtain ⟨Z2, hZ2⟩ : ∃ Z2, Z ++ Y = Z2 := ⟨_, rfl⟩
        have a2 : (⟨Z.toArray⟩ : ByteArray) ++ ⟨Y.toArray⟩ = ⟨Z2.toArray⟩ := by rw [← hZ2]; exact text_cat _ _
        have HZ2 : Hid (Z2 = [40] ++ kidsF g (ps.take (k + 1))) := by
          show _ = _
          rw [← hZ2, HZ.out, hst, List.append_assoc]
        clear hst hb1 hb2 hb3 hY IH hq hZ2
        generalize tellF g q = TQ at *
        go_wp2_with (first
          | (go_at_call 11; go_loud (with_reducible refine cI.mono ?_; rintro e w1 ⟨rfl, h1⟩; have y := y0.trans (h1.mono y0.size); have u := below_same h1 ub)))
        go_roundg g'
        case measure => omega
        case rel => exact ⟨k + 1, Z2, by omega, by go_num, rfl, HZ2.out, y, u⟩
      · have hd : ps.take k = ps := List.take_of_length_le (by omega)
        obtain ⟨q1, hq1⟩ : ∃ q1, q1 = Z ++ [34] := ⟨_, rfl⟩
        obtain ⟨q2, hq2⟩ : ∃ q2, q2 = q1 ++ ty := ⟨_, rfl⟩
        obtain ⟨q3, hq3⟩ : ∃ q3, q3 = q2 ++ [34, 41] := ⟨_, rfl⟩
        have hpost : [40] ++ kidsF g ps ++ [34] ++ ty ++ [34, 41] = q3 := by rw [hq3, hq2, hq1, HZ.out, hd]
        have HX := Lib.hid hpost
        have a1 : (⟨Z.toArray⟩ : ByteArray) ++ ⟨#[34]⟩ = ⟨q1.toArray⟩ := by rw [hq1]; exact text_cat _ _
        have a2 : (⟨q1.toArray⟩ : ByteArray) ++ ⟨ty.toArray⟩ = ⟨q2.toArray⟩ := by rw [hq2]; exact text_cat _ _
        have a3 : (⟨q2.toArray⟩ : ByteArray) ++ ⟨#[34, 41]⟩ = ⟨q3.toArray⟩ := by rw [hq3]; exact text_cat _ _
        have l1 : q1.length ≤ 100000000000002 := by rw [hq1, List.length_append]; show _ + 1 ≤ _; omega
        have l2 : q2.length ≤ 100000000060002 := by rw [hq2, List.length_append]; omega
        have t1 := text_size q1
        have t2 := text_size q2
        have tt := text_size ty
        clear hq1 hq2 hq3 hpost hb1 hb3 hd
        go_wp2_with fail
        go_ret
        rw [show 40 :: (kidsF g ps ++ [34] ++ ty ++ [34, 41]) = q3 from HX.out]
        exact ⟨rfl, hbr⟩
end Go.Proofs.YtmjfhhladicacaaGreatDoor
