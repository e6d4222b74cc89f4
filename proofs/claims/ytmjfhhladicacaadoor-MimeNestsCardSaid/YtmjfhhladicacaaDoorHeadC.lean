/- The walk over head.Only: it returns what its plain function says. No condition beyond those it names. -/
import Derived.Test.YtmjfhhladicacaaDoorHeadB
namespace Go.Proofs.YtmjfhhladicacaaDoor
open Go.RowKit

section
variable {P : Program} {ops : Array Oper} {rest : List Oper} {o : Oper} {a : Act} {Q : Exit → Act → World → Prop}
/-- append(v, x), v owned, x of two cells in a new block -/
theorem wpList_app2 (hgd : o.guard = none) (s x : Operand) (t : TypeId) (ho : o.op = .call { callee := .builtin .append, args := #[s, x], argTypes := #[t, t] })
    (e : TypeId) {z : Value} {bytes : Nat} (ht : P.underlying t = some (.slice e)) (hinfo : (P.info? e).map (fun i => (i.zero, i.size, i.bytes)) = some (some z, 2, bytes)) (hzs : z.cells.size = 2)
    (base : Nat) (v : Value) (n : Nat) (xs : List Value) (w : World) (hs : a.eval s = v) (hown : w.ownsRow base e 2 v n xs)
    (y y2 : Value) (hx : a.eval x = .slice (some ⟨w.heap.size, 0, none⟩) 1 1) (h1 : y.oneCell' = true) (h2 : y2.oneCell' = true)
    (hn : n + 1 ≤ 4294967296) (hb : bytes ≤ 64) (hbase : base ≤ w.heap.size)
    (h : ∀ v' w', w'.ownsRow base e 2 v' (n + 1) (xs ++ [y, y2]) → (w.alloc (.cells #[y, y2] e)).grownBy w' v.ownBlock → v' ≠ .slice none 0 0 → wpList P ops Q rest (a.put o.dst v') w') : wpList P ops Q (o :: rest) a (w.alloc (.cells #[y, y2] e)) := by
  obtain ⟨i0, hi, hz0, hz1, hz2⟩ := info_parts hinfo
  refine wpList_append_own _ hgd s x t ho base e i0 z 2 bytes ht hi hz0 hz1 hz2 hzs (by decide) v n xs hs (hown.alloc _) ⟨w.heap.size, 0, none⟩ 1 1 [y, y2] hx rfl ?_ ?_ ?_ ?_ ?_ ?_
  · intro j u hj
    match j, hj with
    | 0, hj => simp at hj; subst hj; simp [Addr.add]
    | 1, hj => simp at hj; subst hj; simp [Addr.add]
  · intro u hu; simp at hu; rcases hu with rfl | rfl
    · exact h1
    · exact h2
  · unfold maxLen; omega
  · have : (n + 1) * bytes ≤ 4294967296 * 64 := Nat.mul_le_mul hn hb
    omega
  · simp; omega
  · intro v' w' k1 k2 k3
    refine h v' w' k1 k2 ?_
    intro hv
    have := (k3.1 hv).2
    omega
end
theorem below_app2 {B : Nat} {a w w' : World} {e : TypeId} {sz n : Nat} {xs : List Value} {v : Value} {o : Obj} (h : Below B a w) (hB : B ≤ w.heap.size) (hown : w.ownsRow B e sz v n xs) (hg : (w.alloc o).grownBy w' v.ownBlock) : Below B a w' :=
  (h.alloc hB _).grown hg (by simp; omega) (fun k hk => (hown.lt k hk).1)
theorem owns_below {w w' : World} {B : Nat} {e : TypeId} {sz : Nat} {v : Value} {n : Nat} {xs : List Value} (h : w.ownsRow B e sz v n xs) (hb : Below w.heap.size w w') : w'.ownsRow B e sz v n xs :=
  owns_same h (fun _ _ hk _ => below_same hb hk)

def fldCells (l : List Fld) : List Value := l.flatMap fun f => [Value.string ⟨f.1.toArray⟩, Value.string ⟨f.2.toArray⟩]
theorem fldCells_snoc (l : List Fld) (f : Fld) : fldCells l ++ [Value.string ⟨f.1.toArray⟩, Value.string ⟨f.2.toArray⟩] = fldCells (l ++ [f]) := by simp [fldCells]
theorem fldCells_at : ∀ (l : List Fld) (j : Nat) (f : Fld), l[j]? = some f → (fldCells l)[j * 2]? = some (Value.string ⟨f.1.toArray⟩) ∧ (fldCells l)[j * 2 + 1]? = some (Value.string ⟨f.2.toArray⟩)
  | g :: l, 0, f, h => by simp at h; subst h; exact ⟨rfl, rfl⟩
  | g :: l, j + 1, f, h => by
    have := fldCells_at l j f (by simpa using h)
    rw [show (j + 1) * 2 = j * 2 + 1 + 1 by omega]
    exact this
theorem fldRow_of_owns {w : World} {B : Nat} {e : TypeId} {v : Value} {l : List Fld} (h : w.ownsRow B e 2 v l.length (fldCells l)) : FldRow w v l := by
  rcases h.2 with ⟨rfl, h0⟩ | ⟨g, cap, cur, rfl, _, hh, _⟩
  · exact Or.inl ⟨rfl, List.eq_nil_of_length_eq_zero h0⟩
  · refine Or.inr ⟨g, 0, cap, rfl, (Array.getElem?_eq_some_iff.1 hh).1, ?_⟩
    intro j f hj
    have hl : j < l.length := (List.getElem?_eq_some_iff.1 hj).1
    obtain ⟨c1, c2⟩ := fldCells_at l j f hj
    rw [Nat.zero_add]
    exact ⟨(h.cellAt _ (by omega)).trans c1, (h.cellAt _ (by omega)).trans c2⟩

theorem owns_slice' {w : World} {B : Nat} {e : TypeId} {sz : Nat} {v : Value} {n : Nat} {xs : List Value} (h : w.ownsRow B e sz v n xs) : ∃ ao cap, v = .slice ao n cap ∧ (0 < n → ∃ g, ao = some ⟨g, 0, none⟩) := by
  rcases h.2 with ⟨rfl, rfl⟩ | ⟨g, cap, cur, rfl, _⟩
  · exact ⟨none, 0, rfl, fun h => absurd h (by decide)⟩
  · exact ⟨_, _, rfl, fun _ => ⟨g, rfl⟩⟩
theorem two_cells {w : World} {U : Nat} {a b : Value} {t : TypeId} {fz : Nat × Nat} (h : w.heap[U]? = some (.cells #[a, b] t fz)) : w.cell? ⟨U, 0, none⟩ = some a ∧ w.cell? ⟨U, 1, none⟩ = some b :=
  ⟨by rw [Lib.cell_of_heap h]; rfl, by rw [Lib.cell_of_heap h]; rfl⟩
theorem only_hit {l : List Fld} {k : Nat} {f : Fld} {ns : List (List UInt8)} {n : List UInt8} (hf : l[k]? = some f) (hn : n ∈ ns) (h : smallL f.1 = smallL n) : onlyF (l.take (k + 1)) ns = onlyF (l.take k) ns ++ [f] := by
  rw [List.take_add_one, hf]
  unfold onlyF
  rw [List.filter_append]
  have : (ns.any fun n => smallL f.1 == smallL n) = true := List.any_eq_true.2 ⟨n, hn, by simpa using h⟩
  simp [List.filter_cons, this]
theorem only_miss {l : List Fld} {k : Nat} {f : Fld} {ns : List (List UInt8)} (hf : l[k]? = some f) (h : ∀ n ∈ ns, smallL f.1 ≠ smallL n) : onlyF (l.take (k + 1)) ns = onlyF (l.take k) ns := by
  rw [List.take_add_one, hf]
  unfold onlyF
  rw [List.filter_append]
  have : (ns.any fun n => smallL f.1 == smallL n) = false := by
    rw [List.any_eq_false]; intro n hn; simpa using h n hn
  simp [List.filter_cons, this]
theorem no_more {ns : List (List UInt8)} {j : Nat} {n A : List UInt8} (hn : ns[j]? = some n) (h : ∀ m ∈ ns.take j, A ≠ smallL m) (h2 : A ≠ smallL n) : ∀ m ∈ ns.take (j + 1), A ≠ smallL m := by
  intro m hm
  rw [List.take_add_one, hn, List.mem_append] at hm
  rcases hm with hm | hm
  · exact h m hm
  · simp at hm; rw [hm]; exact h2

theorem fld_info : (Tryd.prog.info? 34).map (fun i => (i.zero, i.size, i.bytes)) = some (some (.agg #[.string ByteArray.empty, .string ByteArray.empty]), 2, 32) := by kernel_rfl

set_option maxRecDepth 100000 in
set_option maxHeartbeats 4000000 in
theorem only_any (v nv : Value) (l : List Fld) (ns : List (List UInt8)) (w : World) (hv : FldRow w v l) (hl : Lens l) (hn : RowAt w nv (ns.map fun n => Value.string (T n))) (hnl : ns.length ≤ 100000 ∧ ∀ n ∈ ns, n.length ≤ 1000000) :
    Calls Tryd.prog 12 #[v, nv] w fun e w' => ∃ r, e = .returned r ∧ FldRow w' r (onlyF l ns) ∧ (∃ ao cap, r = .slice ao (onlyF l ns).length cap) ∧ Below w.heap.size w w' := by
  obtain ⟨ao, cap, rfl, hao⟩ : ∃ ao cap, v = .slice ao l.length cap ∧ (∀ (j : Nat) (f : Fld), l[j]? = some f → ∃ b off, ao = some ⟨b, off, none⟩ ∧ b < w.heap.size ∧ w.cell? ⟨b, off + j * 2, none⟩ = some (.string ⟨f.1.toArray⟩) ∧ w.cell? ⟨b, off + j * 2 + 1, none⟩ = some (.string ⟨f.2.toArray⟩)) := by
    rcases hv with ⟨rfl, rfl⟩ | ⟨b, off, cap, rfl, hlt, hc⟩
    · exact ⟨none, 0, rfl, fun j f hj => by simp at hj⟩
    · exact ⟨_, cap, rfl, fun j f hj => ⟨b, off, rfl, hlt, (hc j f hj).1, (hc j f hj).2⟩⟩
  obtain ⟨an, capn, rfl, han⟩ : ∃ an capn, nv = .slice an ns.length capn ∧ (∀ (j : Nat) (n : List UInt8), ns[j]? = some n → ∃ b off, an = some ⟨b, off, none⟩ ∧ b < w.heap.size ∧ w.cell? ⟨b, off + j, none⟩ = some (.string (T n))) := by
    rcases hn with ⟨rfl, h0⟩ | ⟨b, off, cap, rfl, hlt, hc⟩
    · have : ns = [] := by simpa using h0
      subst this
      exact ⟨none, 0, rfl, fun j f hj => by simp at hj⟩
    · exact ⟨_, cap, by rw [List.length_map], fun j n hj => ⟨b, off, rfl, hlt, hc j _ (by simp [hj])⟩⟩
  have HA := Lib.hid hao
  have HN := Lib.hid han
  clear hao han
  have hll := hl.1
  have hnll := hnl.1
  go_enter Tryd.func12, Tryd.ntmps12
  go_wp2_with fail
  go_loopg [5, 12] l.length (fun g s5 s12 wr => ∃ (k : Nat) (out : List Fld), k + g = l.length ∧ s12 = .int .i64 k ∧ out.length ≤ k ∧ wr.ownsRow w.heap.size 34 2 s5 out.length (fldCells out) ∧ Below w.heap.size w wr ∧ Hid (onlyF (l.take k) ns = out))
  case atStart => exact ⟨0, [], by omega, rfl, by simp, World.ownsRow_nil _ _ _ _, Below.refl _ _, rfl⟩
  case round =>
    obtain ⟨k, out, hk, rfl, hol, hown, hbr, Hf⟩ := hrel
    by_cases hlt : k < l.length
    · obtain ⟨g', rfl⟩ : ∃ g', gk = g' + 1 := ⟨gk - 1, by omega⟩
      obtain ⟨f, hf⟩ : ∃ f, l[k]? = some f := ⟨l[k], List.getElem?_eq_getElem hlt⟩
      obtain ⟨b, off, rfl, hb, c1, c2⟩ := HA.out k f hf
      have d1 := (hbr.cell (p := ⟨b, off + k * 2, none⟩) hb).trans c1
      have d2 := (hbr.cell (p := ⟨b, off + k * 2 + 1, none⟩) hb).trans c2
      have hfl := (hl.2 f (List.mem_of_getElem? hf)).1
      have cF := fun W => small_any (T f.1) W (by rw [Lib.size_eq]; show f.1.length ≤ _; omega)
      simp only [List.toList_toArray] at cF
      have HF := Lib.hid hf
      obtain ⟨f1, f2⟩ := f
      clear hf c1 c2
      simp only at cF d1 d2
      have hsz := hbr.size
      go_wp2_with fail
      obtain ⟨wo, rfl⟩ : ∃ wo : World, wo = wr := ⟨_, rfl⟩
      go_loopg [5, 18] ns.length (fun g s5 s18 wr => ∃ (j : Nat), j + g = ns.length ∧ s18 = .int .i64 j ∧ wr.ownsRow w.heap.size 34 2 s5 out.length (fldCells out) ∧ Below w.heap.size w wr ∧ wo.heap.size < wr.heap.size ∧
        wr.heap[wo.heap.size]? = some (.cells #[.string ⟨f1.toArray⟩, .string ⟨f2.toArray⟩] 34 (0, 0)) ∧ Hid (∀ m ∈ ns.take j, smallL f1 ≠ smallL m))
      case atStart => exact ⟨0, by omega, rfl, hown.alloc _, hbr.alloc hsz _, by simp, World.heap_alloc_new _ _, by intro m hm; simp at hm⟩
      case round =>
        obtain ⟨j, hj, rfl, hown2, hb2, hsz2, hU, HM⟩ := hrel
        by_cases hltj : j < ns.length
        · obtain ⟨g2, rfl⟩ : ∃ g2, gk = g2 + 1 := ⟨gk - 1, by omega⟩
          obtain ⟨n, hnj⟩ : ∃ n, ns[j]? = some n := ⟨ns[j], List.getElem?_eq_getElem hltj⟩
          obtain ⟨bn, offn, rfl, hbn, c3⟩ := HN.out j n hnj
          have d3 := (hb2.cell (p := ⟨bn, offn + j, none⟩) hbn).trans c3
          have d4 : wr.cell? ⟨wo.heap.size, 0, none⟩ = some (.string ⟨f1.toArray⟩) := by rw [Lib.cell_of_heap hU]; rfl
          have d5 : wr.cell? ⟨wo.heap.size, 1, none⟩ = some (.string ⟨f2.toArray⟩) := by rw [Lib.cell_of_heap hU]; rfl
          have hnn := hnl.2 n (List.mem_of_getElem? hnj)
          have cN := fun W => small_any (T n) W (by rw [Lib.size_eq]; show n.length ≤ _; omega)
          simp only [List.toList_toArray] at cN
          have hm1 := fun h => only_hit (ns := ns) HF.out (List.mem_of_getElem? hnj) h
          have hm2 := fun h => no_more hnj HM.out h
          clear c3 hnj
          simp only at hm1
          generalize hA : smallL f1 = A at cF hm1 hm2
          generalize smallL n = B at cN hm1 hm2
          by_cases hq : A = B
          · subst hq
            have hg := Lib.hid (hm1 rfl)
            clear hm1 hm2 hA
            go_wp2_with (first
              | (go_at_call 10; with_reducible refine (cF _).mono ?_; rintro e w1 ⟨rfl, h1⟩; have y1 := hb2.trans (h1.mono hb2.size); have o1 := owns_below hown2 h1; have u1 := below_same h1 hU)
              | (go_at_call 10; with_reducible refine (cN _).mono ?_; rintro e w2 ⟨rfl, h2⟩; have y2 := y1.trans (h2.mono y1.size); have o2 := owns_below o1 h2; have u2 := below_same h2 u1; have k4 := (two_cells u2).1; have k5 := (two_cells u2).2)
              | (at_builtin; go_must (refine wpList_app2 rfl _ _ 23 rfl 34 Tryd.underlying23 fld_info rfl w.heap.size _ _ _ _ rfl o2 (.string ⟨f1.toArray⟩) (.string ⟨f2.toArray⟩) rfl rfl rfl ?c3 (by decide) ?c5 ?_)))
            case c3 => omega
            case c5 => exact y2.size
            intro v' w3 hown3 hg3 hv3
            have y3 := below_app2 y2 y2.size o2 hg3
            rw [fldCells_snoc out (f1, f2)] at hown3
            clear k4 k5
            go_wp2_with fail
            go_roundg g'
            case measure => omega
            case rel => exact ⟨k + 1, out ++ [(f1, f2)], by omega, by go_num, by simp; omega, by simpa using hown3, y3, by show _ = _; rw [hg.out, Hf.out]⟩
          · have hqb : (A == B) = false := by simpa using hq
            have hg := Lib.hid (hm2 (by simpa using hq))
            clear hm1 hm2
            go_wp2_with (first
              | (go_at_call 10; with_reducible refine (cF _).mono ?_; rintro e w1 ⟨rfl, h1⟩; have y1 := hb2.trans (h1.mono hb2.size); have o1 := owns_below hown2 h1; have u1 := below_same h1 hU; have z1 := h1.size)
              | (go_at_call 10; with_reducible refine (cN _).mono ?_; rintro e w2 ⟨rfl, h2⟩; have y2 := y1.trans (h2.mono y1.size); have o2 := owns_below o1 h2; have u2 := below_same h2 u1; have z2 := h2.size))
            go_roundg g2
            case measure => omega
            case rel => exact ⟨j + 1, by omega, by go_num, o2, y2, by omega, u2, by rw [hA]; exact hg.out⟩
        · have hall : ∀ m ∈ ns, smallL f1 ≠ smallL m := by
            have := HM.out
            rwa [List.take_of_length_le (by omega)] at this
          have hg := Lib.hid (only_miss HF.out hall)
          clear hall
          go_wp2_with fail
          go_roundg g'
          case measure => omega
          case rel => exact ⟨k + 1, out, by omega, by go_num, by omega, hown2, hb2, by show _ = _; rw [hg.out, Hf.out]⟩
    · have hg : onlyF l ns = out := by have := Hf.out; rwa [List.take_of_length_le (by omega)] at this
      have HG := Lib.hid hg
      clear hg
      go_wp2_with fail
      go_ret
      refine ⟨_, rfl, ?_, ?_, hbr⟩
      · rw [HG.out]; exact fldRow_of_owns hown
      · rw [HG.out]
        obtain ⟨ao, cap, h, _⟩ := owns_slice' hown
        exact ⟨ao, cap, h⟩
end Go.Proofs.YtmjfhhladicacaaDoor
