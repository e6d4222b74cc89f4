/- The walks over mime's itoa and Print: each returns what its plain function says. No condition. -/
import Derived.Test.YtmjfhhladicacaaGreatDoorMimeF
import Derived.Test.YtmjfhhladicacaaGreatDoorHeadH
import Derived.Deep.RegionHeld3
namespace Go.Proofs.YtmjfhhladicacaaGreatDoor
open Go.RowKit Go.Shelf

theorem num_low {n : Nat} (h : n < 10) : numL n = [UInt8.ofNat (48 + n)] := by unfold numL; rw [dif_pos h]
theorem num_high {n : Nat} (h : ¬n < 10) : numL n = numL (n / 10) ++ numL (n % 10) := by
  rw [num_low (Nat.mod_lt n (by decide))]
  conv => lhs; unfold numL
  rw [dif_neg h]

set_option maxRecDepth 100000 in
set_option maxHeartbeats 4000000 in
theorem itoa_small (n : Nat) (w : World) (hn : n < 10) :
    Calls Tryz.prog 17 #[.int .i64 (n : Int)] w fun e w' => e = .returned (.string ⟨(numL n).toArray⟩) ∧ Below w.heap.size w w' := by
  have ec : (convert 54 9 (.slice (some ⟨w.heap.size, 0, none⟩) 1 1)).run Tryz.prog (w.alloc (.cells #[.int .u8 (48 + (n : Int))] 5)) = .ok (.string ⟨(numL n).toArray⟩) (w.alloc (.cells #[.int .u8 (48 + (n : Int))] 5)) := by
    rw [num_low hn]
    refine run_bytes_text (l := [UInt8.ofNat (48 + n)]) (Or.inr ⟨w.heap.size, 0, 1, rfl, by simp, ?_⟩) _ _ 5 Tryz.underlying54 Tryz.underlying5 Tryz.underlying9
    intro j u hj
    match j, hj with
    | 0, hj =>
      have e1 : (UInt8.ofNat (48 + n)).toNat = 48 + n := by simp; omega
      simp only [Lib.byteCells, List.map_cons, List.map_nil, List.getElem?_cons_zero, Option.some.injEq] at hj
      rw [← hj, e1, World.cell?_alloc_at _ _ _ _ rfl]
      simp
  have hz : (n : Int) < 10 := by omega
  have hm : max (n : Int) 0 = (n : Int) := by omega
  go_enter Tryz.func17, Tryz.ntmps17
  go_wp2_with fail
  go_ret
  exact ⟨rfl, (Below.refl _ _).alloc (Nat.le_refl _) _⟩

set_option maxRecDepth 100000 in
set_option maxHeartbeats 4000000 in
theorem itoa_any : ∀ (n : Nat) (w : World), n ≤ 1000000000 → Calls Tryz.prog 17 #[.int .i64 (n : Int)] w fun e w' => e = .returned (.string ⟨(numL n).toArray⟩) ∧ Below w.heap.size w w' := by
  intro n
  induction n using Nat.strongRecOn with
  | ind n ih =>
    intro w hn
    by_cases h : n < 10
    · exact itoa_small n w h
    · have cA := fun W => ih (n / 10) (by omega) W (by omega)
      have cB := fun W => itoa_small (n % 10) W (Nat.mod_lt _ (by omega))
      have q1 : ((n / 10 : Nat) : Int) = (n : Int) / 10 := by omega
      have q2 : ((n % 10 : Nat) : Int) = (n : Int) % 10 := by omega
      rw [q1] at cA
      rw [q2] at cB
      have hcat := text_cat (numL (n / 10)) (numL (n % 10))
      rw [← num_high h] at hcat
      have l1 := text_size (numL (n / 10))
      have l2 := text_size (numL (n % 10))
      have s1 : (numL (n / 10)).length ≤ 1000000001 := by have := num_len (n / 10); omega
      have s2 : (numL (n % 10)).length ≤ 1000000001 := by have := num_len (n % 10); omega
      have hnz : ¬((n : Int) < 10) := by omega
      clear q1 q2 ih
      go_enter Tryz.func17, Tryz.ntmps17
      go_wp2_with (first
        | (go_at_call 17; with_reducible refine (cA _).mono ?_; rintro e w1 ⟨rfl, y1⟩)
        | (go_at_call 17; with_reducible refine (cB _).mono ?_; rintro e w2 ⟨rfl, y2⟩))
      go_ret
      exact ⟨rfl, y1.trans (y2.mono y1.size)⟩

/-- how each part is written, and a blank -/
def kidsF (g : Nat) (l : List PT) : List UInt8 := l.flatMap fun q => tellF g q ++ [32]
theorem kids_tell {g : Nat} {l : List PT} {k : Nat} {q : PT} (h : l[k]? = some q) : kidsF g (l.take (k + 1)) = kidsF g (l.take k) ++ (tellF g q ++ [32]) := by
  unfold kidsF
  rw [List.take_add_one, h]
  simp
theorem tell_leaf {g : Nat} {p : PT} (h : p.ps.length = 0) : tellF (g + 1) p = [40, 34] ++ p.ty ++ [34, 32] ++ numL p.ln ++ [32] ++ numL (p.to - p.fr) ++ [41] := by
  unfold tellF; rw [if_pos h]
theorem tell_node {g : Nat} {p : PT} (h : p.ps.length ≠ 0) : tellF (g + 1) p = [40] ++ kidsF g p.ps ++ [34] ++ p.ty ++ [34, 41] := by
  unfold tellF; rw [if_neg h]; rfl
theorem kids_len {g : Nat} {l : List PT} (h : ∀ q ∈ l, Fine g q) (hl : l.length ≤ 30) (k : Nat) : (kidsF g (l.take k)).length ≤ 30 * (tellB g + 1) := by
  have := flat_len (f := fun q => tellF g q ++ [32]) (b := tellB g + 1) (l.take k) (fun q hq => by
    have := tell_len g q (h q (List.mem_of_mem_take hq))
    simp only [List.length_append, List.length_singleton]; omega)
  refine Nat.le_trans this (Nat.mul_le_mul_right _ ?_)
  rw [List.length_take]; omega

set_option maxRecDepth 100000 in
set_option maxHeartbeats 8000000 in
/-- Print of what has no parts -/
theorem print_leaf (g : Nat) (p : PT) (ao : Option Addr) (cap : Nat) (w : World) (hF : Fine (g + 1) p) (h0 : p.ps.length = 0) :
    Calls Tryz.prog 10 #[aggP p ao cap] w fun e w' => e = .returned (.string ⟨(tellF (g + 1) p).toArray⟩) ∧ Below w.heap.size w w' := by
  obtain ⟨h1, h2, h3, h4, _, _⟩ := hF
  rw [tell_leaf h0]
  rw [aggP, h0]
  clear h0
  obtain ⟨ty, bd, fr, te, ln, ps⟩ := p
  simp only [PT.ty, PT.bd, PT.fr, PT.to, PT.ln] at h1 h2 h3 h4 ⊢
  obtain ⟨d, hd⟩ : ∃ d, te - fr = d := ⟨_, rfl⟩
  rw [hd]
  have hdz : (te : Int) - (fr : Int) = (d : Int) := by omega
  have hd9 : d ≤ 9000 := by omega
  have cL := fun W => itoa_any ln W (by omega)
  have cD := fun W => itoa_any d W (by omega)
  have nl := num_len ln
  have nd := num_len d
  obtain ⟨q1, hq1⟩ : ∃ q1, q1 = [40, 34] ++ ty := ⟨_, rfl⟩
  obtain ⟨q2, hq2⟩ : ∃ q2, q2 = q1 ++ [34, 32] := ⟨_, rfl⟩
  obtain ⟨q3, hq3⟩ : ∃ q3, q3 = q2 ++ numL ln := ⟨_, rfl⟩
  obtain ⟨q4, hq4⟩ : ∃ q4, q4 = q3 ++ [32] := ⟨_, rfl⟩
  obtain ⟨q5, hq5⟩ : ∃ q5, q5 = q4 ++ numL d := ⟨_, rfl⟩
  obtain ⟨q6, hq6⟩ : ∃ q6, q6 = q5 ++ [41] := ⟨_, rfl⟩
  have a1 : (⟨#[40, 34]⟩ : ByteArray) ++ ⟨ty.toArray⟩ = ⟨q1.toArray⟩ := by rw [hq1]; exact text_cat _ _
  have a2 : (⟨q1.toArray⟩ : ByteArray) ++ ⟨#[34, 32]⟩ = ⟨q2.toArray⟩ := by rw [hq2]; exact text_cat _ _
  have a3 : (⟨q2.toArray⟩ : ByteArray) ++ ⟨(numL ln).toArray⟩ = ⟨q3.toArray⟩ := by rw [hq3]; exact text_cat _ _
  have a4 : (⟨q3.toArray⟩ : ByteArray) ++ ⟨#[32]⟩ = ⟨q4.toArray⟩ := by rw [hq4]; exact text_cat _ _
  have a5 : (⟨q4.toArray⟩ : ByteArray) ++ ⟨(numL d).toArray⟩ = ⟨q5.toArray⟩ := by rw [hq5]; exact text_cat _ _
  have a6 : (⟨q5.toArray⟩ : ByteArray) ++ ⟨#[41]⟩ = ⟨q6.toArray⟩ := by rw [hq6]; exact text_cat _ _
  rw [← hq1, ← hq2, ← hq3, ← hq4, ← hq5, ← hq6]
  have l1 : q1.length ≤ 60002 := by rw [hq1, List.length_append]; show 2 + _ ≤ _; omega
  have l2 : q2.length ≤ 60004 := by rw [hq2, List.length_append]; show _ + 2 ≤ _; omega
  have l3 : q3.length ≤ 80004 := by rw [hq3, List.length_append]; omega
  have l4 : q4.length ≤ 80005 := by rw [hq4, List.length_append]; show _ + 1 ≤ _; omega
  have l5 : q5.length ≤ 90006 := by rw [hq5, List.length_append]; omega
  have t0 := text_size ty
  have t1 := text_size q1
  have t2 := text_size q2
  have t3 := text_size q3
  have t4 := text_size q4
  have t5 := text_size q5
  have tl := text_size (numL ln)
  have td := text_size (numL d)
  have z1 : ¬(9223372036854775807 < 2 + ty.length) := by omega
  have z2 : ¬(9223372036854775807 < q1.length + 2) := by omega
  have z3 : ¬(9223372036854775807 < q2.length + (numL ln).length) := by omega
  have z4 : ¬(9223372036854775807 < q3.length + 1) := by omega
  have z5 : ¬(9223372036854775807 < q4.length + (numL d).length) := by omega
  have z6 : ¬(9223372036854775807 < q5.length + 1) := by omega
  have hwd : IntKind.i64.wrap (d : Int) = (d : Int) := IntWalk.i64_in _ (by omega)
  clear hq1 hq2 hq3 hq4 hq5 hq6 hd
  go_enter Tryz.func10, Tryz.ntmps10
  go_wp2_with fail
  have y : Below w.heap.size w (w.alloc (.cells #[.string ⟨ty.toArray⟩, .string ⟨bd.toArray⟩, .int .i64 (fr : Int), .int .i64 (te : Int), .int .i64 (ln : Int), .slice ao 0 cap] 25)).drew := ((Below.refl _ _).alloc (Nat.le_refl _) _).drew
  have u : (w.alloc (.cells #[.string ⟨ty.toArray⟩, .string ⟨bd.toArray⟩, .int .i64 (fr : Int), .int .i64 (te : Int), .int .i64 (ln : Int), .slice ao 0 cap] 25)).drew.heap[w.heap.size]? = some (.cells #[.string ⟨ty.toArray⟩, .string ⟨bd.toArray⟩, .int .i64 (fr : Int), .int .i64 (te : Int), .int .i64 (ln : Int), .slice ao 0 cap] 25 (0, 0)) := World.heap_alloc_new w _
  go_region_held3 (fun W => W.cell? ⟨w.heap.size, 0, none⟩ = some (.string ⟨ty.toArray⟩) ∧ W.cell? ⟨w.heap.size, 2, none⟩ = some (.int .i64 (fr : Int)) ∧ W.cell? ⟨w.heap.size, 3, none⟩ = some (.int .i64 (te : Int)) ∧ W.cell? ⟨w.heap.size, 4, none⟩ = some (.int .i64 (ln : Int)) ∧ Below w.heap.size w W)
    (first | exact ⟨(six_cells u).1, (six_cells u).2.2.1, (six_cells u).2.2.2.1, (six_cells u).2.2.2.2.1, y⟩)
    (first
      | (go_at_call 17; with_reducible refine (cL _).mono ?_; rintro e w1 ⟨rfl, h1⟩; have y := y.trans (h1.mono y.size); have u := below_same h1 u)
      | (go_at_call 17; with_reducible refine (cD _).mono ?_; rintro e w2 ⟨rfl, h2⟩; have y := y.trans (h2.mono y.size); have u := below_same h2 u))
  go_wp2_with fail
  go_ret
  exact ⟨rfl, y⟩

theorem bld_below {T e : TypeId} {B b : Nat} {bs : List Value} {w w' : World} (h : Lib.IsBuilderF T e B b bs w) (hb : Below w.heap.size w w') : Lib.IsBuilderF T e B b bs w' :=
  bld_same h (fun k o hk _ => (hb.block k (Array.getElem?_eq_some_iff.1 hk).1).trans hk)

set_option maxRecDepth 100000 in
set_option maxHeartbeats 16000000 in
theorem tell_any : ∀ (g : Nat) (p : PT) (ao : Option Addr) (cap : Nat) (w : World) (ok : Nat → Prop), g ≤ 7 → Fine g p → Reads w ok (.slice ao p.ps.length cap) p.ps →
    Calls Tryz.prog 10 #[aggP p ao cap] w fun e w' => e = .returned (.string ⟨(tellF g p).toArray⟩) ∧ Below w.heap.size w w'
  | 0, p, ao, cap, w, ok, _, h, _ => h.elim
  | g + 1, p, ao, cap, w, ok, hg7, h, hR => by
    by_cases h0 : p.ps.length = 0
    · exact print_leaf g p ao cap w h h0
    have IH := tell_any g
    rw [tell_node h0]
    obtain ⟨_, _, _, hty, hlen, hkids⟩ := h
    have hbnd := kids_len hkids hlen
    have hB7 := tellB_le (g := g + 1) hg7
    have hBe : tellB (g + 1) = 30 * (tellB g + 1) + 100000 := rfl
    obtain ⟨ty, bd, fr, te, ln, ps⟩ := p
    simp only [PT.ty, PT.bd, PT.fr, PT.to, PT.ln, PT.ps] at hlen hkids hR hty h0 hbnd ⊢
    show Calls _ _ #[.agg #[.string ⟨ty.toArray⟩, .string ⟨bd.toArray⟩, .int .i64 (fr : Int), .int .i64 (te : Int), .int .i64 (ln : Int), .slice ao ps.length cap]] _ _
    have HR := Lib.hid hR
    have HBN := Lib.hid hbnd
    have HB := Lib.hid (show 30 * (tellB g + 1) ≤ 100000000000000 by omega)
    clear hR hbnd hB7 hBe
    have hI0 := Lib.IsBuilderF.of (Lib.fresh_isBuilder 56 5 (w.alloc (.cells #[.string ⟨ty.toArray⟩, .string ⟨bd.toArray⟩, .int .i64 (fr : Int), .int .i64 (te : Int), .int .i64 (ln : Int), .slice ao ps.length cap] 25)))
    rw [alloc_size] at hI0
    have u := alloc_at (o := .cells #[.pointer none, .slice none 0 0] 56) (World.heap_alloc_new w (.cells #[.string ⟨ty.toArray⟩, .string ⟨bd.toArray⟩, .int .i64 (fr : Int), .int .i64 (te : Int), .int .i64 (ln : Int), .slice ao ps.length cap] 25))
    have y := ((Below.refl w.heap.size w).alloc (Nat.le_refl _) (.cells #[.string ⟨ty.toArray⟩, .string ⟨bd.toArray⟩, .int .i64 (fr : Int), .int .i64 (te : Int), .int .i64 (ln : Int), .slice ao ps.length cap] 25)).alloc (by rw [alloc_size]; exact Nat.le_succ _) (.cells #[.pointer none, .slice none 0 0] 56)
    have c0 : ∀ W, Lib.IsBuilderF 56 5 (w.heap.size + 1) (w.heap.size + 1) (Lib.byteCells []) W → w.heap.size + 1 ≤ W.heap.size → Calls Tryz.prog 18 #[.pointer (some ⟨w.heap.size + 1, 0, none⟩), .int .u8 40] W fun e w' => e = .returned .nilIface ∧ Lib.IsBuilderF 56 5 (w.heap.size + 1) (w.heap.size + 1) (Lib.byteCells ([40] ++ kidsF g (ps.take 0))) w' ∧ Below (w.heap.size + 1) W w' := fun W h1 h2 => by
      refine (bld_WriteByte (w.heap.size + 1) (w.heap.size + 1) (Lib.byteCells []) 40 W h1 (by show 0 + 1 ≤ _; decide) h2).mono ?_
      rintro e w' ⟨rfl, h1, hb1, _⟩
      exact ⟨rfl, Or.inr h1, hb1⟩
    have sz0 : w.heap.size + 1 ≤ ((w.alloc (.cells #[.string ⟨ty.toArray⟩, .string ⟨bd.toArray⟩, .int .i64 (fr : Int), .int .i64 (te : Int), .int .i64 (ln : Int), .slice ao ps.length cap] 25)).alloc (.cells #[.pointer none, .slice none 0 0] 56)).heap.size := by rw [alloc_size, alloc_size]; omega
    have hI1 : Lib.IsBuilderF 56 5 (w.heap.size + 1) (w.heap.size + 1) (Lib.byteCells []) ((w.alloc (.cells #[.string ⟨ty.toArray⟩, .string ⟨bd.toArray⟩, .int .i64 (fr : Int), .int .i64 (te : Int), .int .i64 (ln : Int), .slice ao ps.length cap] 25)).alloc (.cells #[.pointer none, .slice none 0 0] 56)) := hI0
    go_enter Tryz.func10, Tryz.ntmps10
    go_wp2_with (go_at_call 18; go_loud (with_reducible refine (c0 _ hI1 sz0).mono ?_; rintro e w1 ⟨rfl, hI2, hb1⟩; have u1 := (hb1.block w.heap.size (Nat.lt_succ_self _)).trans u; have y1 := y.trans (hb1.mono (Nat.le_succ _)); have x5 := (six_cells u1).2.2.2.2.2))
    clear c0 hI0 hI1 u y sz0
    go_loopg [31] ps.length (fun g31 s31 wr => ∃ (k : Nat), k + g31 = ps.length ∧ s31 = .int .i64 (k : Int) ∧ Lib.IsBuilderF 56 5 (w.heap.size + 1) (w.heap.size + 1) (Lib.byteCells ([40] ++ kidsF g (ps.take k))) wr ∧ Below w.heap.size w wr ∧ w.heap.size + 1 ≤ wr.heap.size ∧
      wr.heap[w.heap.size]? = some (.cells #[.string ⟨ty.toArray⟩, .string ⟨bd.toArray⟩, .int .i64 (fr : Int), .int .i64 (te : Int), .int .i64 (ln : Int), .slice ao ps.length cap] 25 (0, 0)))
    case atStart => exact ⟨0, by omega, rfl, hI2, y1, Nat.succ_le_of_lt (Array.getElem?_eq_some_iff.1 u1).1, u1⟩
    case round =>
      obtain ⟨k, hk, rfl, hI, hbr, hsz, hbx⟩ := hrel
      have x0 := (six_cells hbx).1
      by_cases hlt : k < ps.length
      · obtain ⟨g', rfl⟩ : ∃ g', gk = g' + 1 := ⟨gk - 1, by omega⟩
        obtain ⟨q, hq⟩ : ∃ q, ps[k]? = some q := ⟨ps[k], List.getElem?_eq_getElem hlt⟩
        have hRr := reads_keep (W' := wr) (ok' := ok) HR.out hbr.size (fun j _ hj => hbr.block j hj) (fun _ h _ => h)
        obtain ⟨gb, n0, cap0, aj, cj, he, hgb, _, d0, d1, d2, d3, d4, d5, hq5⟩ := reads_at hRr k q hq
        cases he
        have hRa := reads_below hq5 ((Below.refl wr.heap.size wr).alloc (Nat.le_refl _) (.cells #[.string ⟨q.ty.toArray⟩, .string ⟨q.bd.toArray⟩, .int .i64 (q.fr : Int), .int .i64 (q.to : Int), .int .i64 (q.ln : Int), .slice aj q.ps.length cj] 25))
        have cI := IH q aj cj _ ok (by omega) (hkids q (List.mem_of_getElem? hq)) hRa
        have y0 := hbr.alloc hbr.size (.cells #[.string ⟨q.ty.toArray⟩, .string ⟨q.bd.toArray⟩, .int .i64 (q.fr : Int), .int .i64 (q.to : Int), .int .i64 (q.ln : Int), .slice aj q.ps.length cj] 25)
        have ub := alloc_at (o := .cells #[.string ⟨q.ty.toArray⟩, .string ⟨q.bd.toArray⟩, .int .i64 (q.fr : Int), .int .i64 (q.to : Int), .int .i64 (q.ln : Int), .slice aj q.ps.length cj] 25) hbx
        have xb := World.heap_alloc_new wr (.cells #[.string ⟨q.ty.toArray⟩, .string ⟨q.bd.toArray⟩, .int .i64 (q.fr : Int), .int .i64 (q.to : Int), .int .i64 (q.ln : Int), .slice aj q.ps.length cj] 25)
        have hIa := hI.alloc (.cells #[.string ⟨q.ty.toArray⟩, .string ⟨q.bd.toArray⟩, .int .i64 (q.fr : Int), .int .i64 (q.to : Int), .int .i64 (q.ln : Int), .slice aj q.ps.length cj] 25)
        have u0 := (six_cells xb).1
        have u1 := (six_cells xb).2.1
        have u2 := (six_cells xb).2.2.1
        have u3 := (six_cells xb).2.2.2.1
        have u4 := (six_cells xb).2.2.2.2.1
        have u5 := (six_cells xb).2.2.2.2.2
        have hst := kids_tell (g := g) hq
        have hb1 := HBN.out k
        have hb2 := HBN.out (k + 1)
        have hb3 := HB.out
        obtain ⟨Z, hZ⟩ : ∃ Z, tellF g q ++ [32] = Z := ⟨_, rfl⟩
        have a1 : (⟨(tellF g q).toArray⟩ : ByteArray) ++ ⟨#[32]⟩ = ⟨Z.toArray⟩ := by rw [← hZ]; exact text_cat _ _
        rw [hZ] at hst
        have hZl : Z.length ≤ 100000000000000 := by rw [hst, List.length_append] at hb2; omega
        have t1 := text_size (tellF g q)
        have hTl : (tellF g q).length ≤ 100000000000000 := by rw [← hZ, List.length_append] at hZl; omega
        have cW := fun W h1 h2 => bld_write (w.heap.size + 1) (w.heap.size + 1) ([40] ++ kidsF g (ps.take k)) Z W h1 (by rw [List.length_append]; rw [hst, List.length_append] at hb2; show 1 + _ + _ ≤ _; omega) h2
        rw [List.append_assoc, ← hst] at cW
        clear hst hb1 hb2 hb3 hZ IH hq
        generalize tellF g q = TQ at *
        go_wp2_with (first
          | (go_at_call 10; with_reducible refine cI.mono ?_; rintro e w1 ⟨rfl, h1⟩; have y := y0.trans (h1.mono y0.size); have u := below_same h1 ub; have hI1 := bld_below hIa h1; have sz1 : w.heap.size + 1 ≤ w1.heap.size := Nat.le_trans hsz (Nat.le_trans (by rw [alloc_size]; exact Nat.le_succ _) h1.size))
          | (go_at_call 19; with_reducible refine (cW _ hI1 sz1).mono ?_; rintro e w2 ⟨rfl, hI2, h2⟩; have u9 := (h2.block w.heap.size (Nat.lt_succ_self _)).trans u; have y := y.trans (h2.mono (Nat.le_succ _)); have sz2 := Nat.le_trans sz1 h2.size))
        go_roundg g'
        case measure => omega
        case rel => exact ⟨k + 1, by omega, by go_num, hI2, y, sz2, u9⟩
      · have hd : ps.take k = ps := List.take_of_length_le (by omega)
        rw [hd] at hI
        have hb1 := HBN.out k
        rw [hd] at hb1
        have hb3 := HB.out
        obtain ⟨q0, hq0⟩ : ∃ q0, q0 = [40] ++ kidsF g ps := ⟨_, rfl⟩
        obtain ⟨q1, hq1⟩ : ∃ q1, q1 = q0 ++ [34] := ⟨_, rfl⟩
        obtain ⟨q2, hq2⟩ : ∃ q2, q2 = q1 ++ ty := ⟨_, rfl⟩
        obtain ⟨q3, hq3⟩ : ∃ q3, q3 = q2 ++ [34, 41] := ⟨_, rfl⟩
        have hpost : [40] ++ kidsF g ps ++ [34] ++ ty ++ [34, 41] = q3 := by rw [hq3, hq2, hq1, hq0]
        have HX := Lib.hid hpost
        have a1 : (⟨q0.toArray⟩ : ByteArray) ++ ⟨#[34]⟩ = ⟨q1.toArray⟩ := by rw [hq1]; exact text_cat _ _
        have a2 : (⟨q1.toArray⟩ : ByteArray) ++ ⟨ty.toArray⟩ = ⟨q2.toArray⟩ := by rw [hq2]; exact text_cat _ _
        have a3 : (⟨q2.toArray⟩ : ByteArray) ++ ⟨#[34, 41]⟩ = ⟨q3.toArray⟩ := by rw [hq3]; exact text_cat _ _
        have l0 : q0.length ≤ 100000000000001 := by rw [hq0, List.length_append]; show 1 + _ ≤ _; omega
        have l1 : q1.length ≤ 100000000000002 := by rw [hq1, List.length_append]; show _ + 1 ≤ _; omega
        have l2 : q2.length ≤ 100000000060002 := by rw [hq2, List.length_append]; omega
        rw [← hq0] at hI
        have cT := fun W h1 h2 => Tryz.Builder_String_any_k (w.heap.size + 1) (w.heap.size + 1) q0 W h1 h2
        have t0 := text_size q0
        have t1 := text_size q1
        have t2 := text_size q2
        have tt := text_size ty
        have z1 : ¬(9223372036854775807 < q0.length + 1) := by omega
        have z2 : ¬(9223372036854775807 < q1.length + ty.length) := by omega
        have z3 : ¬(9223372036854775807 < q2.length + 2) := by omega
        clear hq0 hq1 hq2 hq3 hpost hb1 hb3 hd
        go_wp2_with fail
        have y := hbr.drew
        have u : wr.drew.heap[w.heap.size]? = some (.cells #[.string ⟨ty.toArray⟩, .string ⟨bd.toArray⟩, .int .i64 (fr : Int), .int .i64 (te : Int), .int .i64 (ln : Int), .slice ao ps.length cap] 25 (0, 0)) := hbx
        have hId : Lib.IsBuilderF 56 5 (w.heap.size + 1) (w.heap.size + 1) (Lib.byteCells q0) wr.drew := bld_same hI (fun k o hk _ => hk)
        have hszd : w.heap.size + 1 ≤ wr.drew.heap.size := hsz
        go_region_held3 (fun W => W.cell? ⟨w.heap.size, 0, none⟩ = some (.string ⟨ty.toArray⟩) ∧ Below w.heap.size w W)
          (first | exact ⟨(six_cells u).1, y⟩)
          (first
            | (go_at_call 20; with_reducible refine (cT _ hId hszd).mono ?_; rintro e w2 ⟨rfl, h1, h2, _⟩; have y := y.trans (h2.mono (Nat.le_succ _)); have u := (h2.block w.heap.size (Nat.lt_succ_self _)).trans u))
        go_wp2_with fail
        go_ret
        rw [show 40 :: (kidsF g ps ++ [34] ++ ty ++ [34, 41]) = q3 from HX.out]
        exact ⟨rfl, y⟩
end Go.Proofs.YtmjfhhladicacaaGreatDoor
