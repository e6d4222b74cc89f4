/- The walk over letterboxkeep.FlagsAlgebra: it returns true, whatever it is given. Conditions: flags.system lies as the program's text lays it. -/
import Derived.Test.YtdjmihnmhmdobaaDoorFlagG
import Derived.Test.YtdjmihnmhmdobaaDoorPFlags2
import Derived.Deep.DeepCutAuto
import Derived.Deep.RegionHeld3
import Derived.Deep.RegionLaw
import Derived.Outline
namespace Go.Proofs.YtdjmihnmhmdobaaDoor
open Go.RowKit Go.Shelf Go.Sort

/-- Set, its result laid open -/
theorem set_bad {l : List (List UInt8)} {n : Nat} (hs : setF l = .inl n) (v : Value) (w : World) (hv : SRow w v l) (hl : Short l) (hG : FlagG w) :
    Calls Tryd.prog 6 #[v] w fun e w' => e = .returned (.tuple #[.slice none 0 0, .iface 40 (.int .i64 (n : Int))]) ∧ Below w.heap.size w w' := by
  refine (set_any v l w hv hl hG).mono ?_
  rw [hs]
  rintro e w' ⟨r, rfl, h1, h2⟩
  have h1' : r = .tuple #[.slice none 0 0, .iface 40 (.int .i64 (n : Int))] := h1
  exact ⟨by rw [h1'], h2⟩
theorem set_good {l x : List (List UInt8)} (hs : setF l = .inr x) (v : Value) (w : World) (hv : SRow w v l) (hl : Short l) (hG : FlagG w) :
    Calls Tryd.prog 6 #[v] w fun e w' => ∃ ao cap, e = .returned (.tuple #[.slice ao x.length cap, .nilIface]) ∧ Hid (SRow w' (.slice ao x.length cap) x) ∧ Below w.heap.size w w' := by
  refine (set_any v l w hv hl hG).mono ?_
  rw [hs]
  rintro e w' ⟨r, rfl, ⟨sv, rfl, h1⟩, h2⟩
  have h1' := h1
  obtain ⟨ao, cap, rfl, _⟩ := h1'
  exact ⟨ao, cap, rfl, h1, h2⟩
theorem or_good (a b : List (List UInt8)) (av bv : Value) (w : World) (ha : SRow w av a) (hb : SRow w bv b) (hal : a.length ≤ 100000) (hbl : b.length ≤ 100000) (hG : FlagG w) :
    Calls Tryd.prog 9 #[av, bv] w fun e w' => ∃ ao cap, e = .returned (.slice ao (canonF (a ++ b)).length cap) ∧ Hid (SRow w' (.slice ao (canonF (a ++ b)).length cap) (canonF (a ++ b))) ∧ Below w.heap.size w w' := by
  refine (or_any av bv a b w ha hb hal hbl hG).mono ?_
  rintro e w' ⟨r, rfl, h1, h2⟩
  have h1' := h1
  obtain ⟨ao, cap, rfl, _⟩ := h1'
  exact ⟨ao, cap, rfl, h1, h2⟩
theorem not_good (a b : List (List UInt8)) (av bv : Value) (w : World) (ha : SRow w av a) (hb : SRow w bv b) (hal : a.length ≤ 100000) (hbl : b.length ≤ 100000) :
    Calls Tryd.prog 10 #[av, bv] w fun e w' => ∃ ao cap, e = .returned (.slice ao (notF a b).length cap) ∧ Hid (SRow w' (.slice ao (notF a b).length cap) (notF a b)) ∧ Below w.heap.size w w' := by
  refine (not_any av bv a b w ha hb (by omega) (by omega)).mono ?_
  rintro e w' ⟨r, rfl, h1, h2⟩
  have h1' := h1
  obtain ⟨ao, cap, rfl, _⟩ := h1'
  exact ⟨ao, cap, rfl, h1, h2⟩
theorem small_short {x : List (List UInt8)} (h1 : x.length ≤ 100000) (h2 : ∀ s ∈ x, s.length ≤ 20) : Short x := ⟨h1, fun t ht => by have := h2 t ht; omega⟩

set_option maxRecDepth 100000 in
set_option maxHeartbeats 8000000 in
theorem alg_long (a b : List (List UInt8)) (av bv : Value) (by_ : Int) (w : World) (ha : SRow w av a) (hb : SRow w bv b) (hat : ∀ t ∈ a, t.length ≤ 9223372036854775807) (hbt : ∀ t ∈ b, t.length ≤ 9223372036854775807) (h : textsF a = false ∨ textsF b = false) :
    Calls Tryd.prog 3 #[av, bv, .int .i64 by_] w fun e w' => e = .returned (.bool true) ∧ Below w.heap.size w w' := by
  have cA := fun W (h : Below w.heap.size w W) => texts_any av a W (ha.below h) hat
  have cB := fun W (h : Below w.heap.size w W) => texts_any bv b W (hb.below h) hbt
  have y := Below.refl w.heap.size w
  cases hA : textsF a with
  | false =>
    rw [hA] at cA
    clear h hA
    go_enter Tryd.func3, Tryd.ntmps3
    go_wp2_with (go_at_call 4; with_reducible refine (cA _ y).mono ?_; rintro e w1 ⟨rfl, h⟩; have y := y.trans (h.mono y.size))
    go_ret
    exact ⟨rfl, y⟩
  | true =>
    have hB : textsF b = false := by
      rcases h with h | h
      · rw [hA] at h; cases h
      · exact h
    rw [hA] at cA
    rw [hB] at cB
    clear h hA hB
    go_enter Tryd.func3, Tryd.ntmps3
    go_wp2_with (first
      | (go_at_call 4; with_reducible refine (cA _ y).mono ?_; rintro e w1 ⟨rfl, h⟩; have y := y.trans (h.mono y.size))
      | (go_at_call 4; with_reducible refine (cB _ y).mono ?_; rintro e w1 ⟨rfl, h⟩; have y := y.trans (h.mono y.size)))
    go_ret
    exact ⟨rfl, y⟩

set_option maxRecDepth 100000 in
set_option maxHeartbeats 8000000 in
theorem alg_bad (a b : List (List UInt8)) (av bv : Value) (by_ : Int) (w : World) (ha : SRow w av a) (hb : SRow w bv b) (hA : textsF a = true) (hB : textsF b = true) (hG : FlagG w) (h : (∃ n, setF a = .inl n) ∨ (∃ n, setF b = .inl n)) :
    Calls Tryd.prog 3 #[av, bv, .int .i64 by_] w fun e w' => e = .returned (.bool true) ∧ Below w.heap.size w w' := by
  obtain ⟨sa, hal⟩ := texts_short hA
  obtain ⟨sb, hbl⟩ := texts_short hB
  have cA := fun W (h : Below w.heap.size w W) => texts_any av a W (ha.below h) (fun t ht => by have := sa.2 t ht; omega)
  have cB := fun W (h : Below w.heap.size w W) => texts_any bv b W (hb.below h) (fun t ht => by have := sb.2 t ht; omega)
  have cF := fun W (h : Below w.heap.size w W) => flagged_any W (hG.below h)
  have y := Below.refl w.heap.size w
  rw [hA] at cA
  rw [hB] at cB
  cases hsa : setF a with
  | inl n =>
    have cSa := fun W (h : Below w.heap.size w W) => set_bad hsa av W (ha.below h) sa (hG.below h)
    cases hsb : setF b with
    | inl m =>
      have cSb := fun W (h : Below w.heap.size w W) => set_bad hsb bv W (hb.below h) sb (hG.below h)
      clear h hA hB hsa hsb ha hb
      go_enter Tryd.func3, Tryd.ntmps3
      go_wp2_with (first
        | (go_at_call 4; with_reducible refine (cA _ y).mono ?_; rintro e w1 ⟨rfl, h⟩; have y := y.trans (h.mono y.size))
        | (go_at_call 4; with_reducible refine (cB _ y).mono ?_; rintro e w1 ⟨rfl, h⟩; have y := y.trans (h.mono y.size))
        | (go_at_call 5; with_reducible refine (cF _ y).mono ?_; rintro e w1 ⟨rfl, h⟩; have y := y.trans (h.mono y.size))
        | (go_at_call 6; with_reducible refine (cSa _ y).mono ?_; rintro e w1 ⟨rfl, h⟩; have y := y.trans (h.mono y.size))
        | (go_at_call 6; with_reducible refine (cSb _ y).mono ?_; rintro e w1 ⟨rfl, h⟩; have y := y.trans (h.mono y.size)))
      go_ret
      exact ⟨rfl, y⟩
    | inr z =>
      have cSb := fun W (h : Below w.heap.size w W) => set_good hsb bv W (hb.below h) sb (hG.below h)
      clear h hA hB hsa hsb ha hb
      go_enter Tryd.func3, Tryd.ntmps3
      go_wp2_with (first
        | (go_at_call 4; with_reducible refine (cA _ y).mono ?_; rintro e w1 ⟨rfl, h⟩; have y := y.trans (h.mono y.size))
        | (go_at_call 4; with_reducible refine (cB _ y).mono ?_; rintro e w1 ⟨rfl, h⟩; have y := y.trans (h.mono y.size))
        | (go_at_call 5; with_reducible refine (cF _ y).mono ?_; rintro e w1 ⟨rfl, h⟩; have y := y.trans (h.mono y.size))
        | (go_at_call 6; with_reducible refine (cSa _ y).mono ?_; rintro e w1 ⟨rfl, h⟩; have y := y.trans (h.mono y.size))
        | (go_at_call 6; with_reducible refine (cSb _ y).mono ?_; rintro e w1 ⟨ao, cap, rfl, _, h⟩; have y := y.trans (h.mono y.size)))
      go_ret
      exact ⟨rfl, y⟩
  | inr x =>
    have cSa := fun W (h : Below w.heap.size w W) => set_good hsa av W (ha.below h) sa (hG.below h)
    cases hsb : setF b with
    | inl m =>
      have cSb := fun W (h : Below w.heap.size w W) => set_bad hsb bv W (hb.below h) sb (hG.below h)
      clear h hA hB hsa hsb ha hb
      go_enter Tryd.func3, Tryd.ntmps3
      go_wp2_with (first
        | (go_at_call 4; with_reducible refine (cA _ y).mono ?_; rintro e w1 ⟨rfl, h⟩; have y := y.trans (h.mono y.size))
        | (go_at_call 4; with_reducible refine (cB _ y).mono ?_; rintro e w1 ⟨rfl, h⟩; have y := y.trans (h.mono y.size))
        | (go_at_call 5; with_reducible refine (cF _ y).mono ?_; rintro e w1 ⟨rfl, h⟩; have y := y.trans (h.mono y.size))
        | (go_at_call 6; with_reducible refine (cSa _ y).mono ?_; rintro e w1 ⟨ao, cap, rfl, _, h⟩; have y := y.trans (h.mono y.size))
        | (go_at_call 6; with_reducible refine (cSb _ y).mono ?_; rintro e w1 ⟨rfl, h⟩; have y := y.trans (h.mono y.size)))
      go_ret
      exact ⟨rfl, y⟩
    | inr z =>
      rcases h with ⟨n, h⟩ | ⟨n, h⟩
      · rw [hsa] at h; cases h
      · rw [hsb] at h; cases h
section
variable {P : Program} {ops : Array Oper} {o : Oper} {a : Act} {K : Act → World → Prop} {Q : Exit → Act → World → Prop} {E : Prop}
/-- append(v, x...), v owned and not nil, x a row of texts, in a region that draws its order; where the new row lies -/
theorem step_appL (w : World) (hgd : o.guard = none) (s x : Operand) (t : TypeId) (ho : o.op = .call { callee := .builtin .append, args := #[s, x], argTypes := #[t, t] })
    (e : TypeId) {z : Value} {bytes : Nat} (ht : P.underlying t = some (.slice e)) (hinfo : (P.info? e).map (fun i => (i.zero, i.size, i.bytes)) = some (some z, 1, bytes)) (hzs : z.cells.size = 1)
    (base g0 n0 cap0 : Nat) (xs : List (List UInt8)) (hs : a.eval s = .slice (some ⟨g0, 0, none⟩) n0 cap0) (hn0 : xs.length = n0) (hown : w.ownsRow base e 1 (.slice (some ⟨g0, 0, none⟩) n0 cap0) n0 (xs.map encStr))
    (ad : Addr) (l : List (List UInt8)) (n cap : Nat) (hx : a.eval x = .slice (some ad) n cap) (hnl : l.length = n) (hcell : ∀ (j : Nat) (t : List UInt8), l[j]? = some t → w.cell? (ad.add j) = some (.string ⟨t.toArray⟩))
    (hn : xs.length + l.length ≤ 4294967296) (hb : bytes ≤ 64) (hbase : base ≤ w.heap.size)
    (h : ∀ g cap' n' w', Hid ((xs ++ l).length = n') → w'.ownsRow base e 1 (.slice (some ⟨g, 0, none⟩) n' cap') n' ((xs ++ l).map encStr) → w.grownBy w' (some g0) → (g = g0 ∨ g = w.heap.size) → K (a.put o.dst (.slice (some ⟨g, 0, none⟩) n' cap')) w') : if Region.wanted o (yielded ops a.tmps) = true then Oper.wp P o a w K Q else E := by
  subst hn0 hnl
  obtain ⟨i0, hi, hz0, hz1, hz2⟩ := info_parts hinfo
  have hnews : ∀ j u, (l.map encStr)[j]? = some u → w.cell? (ad.add j) = some u := by
    intro j u hj
    rw [List.getElem?_map] at hj
    obtain ⟨t', ht', rfl⟩ := Option.map_eq_some_iff.1 hj
    exact hcell j t' ht'
  have hone : ∀ u ∈ l.map encStr, u.oneCell' = true := by
    intro u hu
    obtain ⟨t', _, rfl⟩ := List.mem_map.1 hu
    rfl
  rcases Nat.eq_zero_or_pos l.length with h0 | h0
  · obtain rfl : l = [] := List.eq_nil_of_length_eq_zero h0
    have hcap : xs.length ≤ cap0 := by
      rcases hown.2 with ⟨h9, _⟩ | ⟨g, c, cur, h9, _, _, h8, _⟩
      · cases h9
      · cases h9; exact h8
    refine step_append_room hgd s x t ho e i0 1 ht hi hz1 g0 0 xs.length cap0 hs ad 0 cap [] hx rfl (fun j u hj => by simp at hj) (fun u hu => by cases hu) (by omega) (fun j hj => by simp at hj) ?_
    have := h g0 cap0 xs.length w (Lib.hid (by simp)) (by simpa using hown) (World.grownBy.refl _ _) (Or.inl rfl)
    simpa [World.setCells] using this
  · refine step_append_lies w hgd s x t ho base e i0 z 1 bytes ht hi hz0 hz1 hz2 hzs (by decide) _ xs.length (xs.map encStr) hs hown ad l.length cap (l.map encStr) hx (by simp) hnews hone h0 (by unfold maxLen; omega) (by have : (xs.length + l.length) * bytes ≤ 4294967296 * 64 := Nat.mul_le_mul hn hb; omega) hbase w.heap.size rfl ?_
    intro g cap' w' k1 k2 k3 _
    exact h g cap' (xs.length + l.length) w' (Lib.hid (List.length_append ..)) (by rw [List.map_append]; exact k1) k2 (k3.elim (fun e => Or.inl (Option.some.inj e).symm) Or.inr)
end
theorem elem_str : Tryd.prog.elem 22 = 9 := by kernel_rfl
theorem slice_from (b off n c k : Nat) (h : k < n) (hc : n ≤ c) (W : World) : (Instr.slice 22 (.slice (some ⟨b, off, none⟩) n c) (some (.int .i64 (k : Int))) none none).run Tryd.prog W = .ok (.slice (some ⟨b, off + k, none⟩) (n - k) (c - k)) W := by
  rw [run_slice_l W 22 _ _ _ (by rw [elem_str]; exact Tryd.underlying22) .i64 (k : Int) (by omega) (by omega), elem_str, Tryd.sizeOf9]
  have hne : ¬ c = k := by omega
  simp [Result.andThen, sliced, hne, add_pl]
theorem slice_upto (b off n c k : Nat) (h : k < n) (hc : n ≤ c) (W : World) : (Instr.slice 22 (.slice (some ⟨b, off, none⟩) n c) none (some (.int .i64 (k : Int))) none).run Tryd.prog W = .ok (.slice (some ⟨b, off, none⟩) k c) W := by
  rw [run_slice_h W 22 _ _ _ (by rw [elem_str]; exact Tryd.underlying22) .i64 (k : Int) (by omega) (by omega), elem_str, Tryd.sizeOf9]
  simp [Result.andThen, sliced, add_pl]
theorem own_empty (W : World) (B : Nat) (h : B ≤ W.heap.size) : (W.alloc (.cells #[] 9)).ownsRow B 9 1 (.slice (some ⟨W.heap.size, 0, none⟩) 0 0) 0 (([] : List (List UInt8)).map encStr) :=
  ⟨rfl, Or.inr ⟨W.heap.size, 0, #[], rfl, h, World.heap_alloc_new W _, Nat.le_refl _, Nat.zero_le _, rfl, rfl⟩⟩
theorem new_AB (w : World) (A B : Obj) : ((w.alloc A).alloc B).heap[w.heap.size + 1]? = some B := by
  have := World.heap_alloc_new (w.alloc A) B
  rwa [alloc_size] at this
theorem own_emptyX (w : World) (X : Obj) : ((w.drew.alloc X).alloc (.cells #[] 9)).ownsRow w.heap.size 9 1 (.slice (some ⟨w.heap.size + 1, 0, none⟩) 0 0) 0 (([] : List (List UInt8)).map encStr) :=
  ⟨rfl, Or.inr ⟨w.heap.size + 1, 0, #[], rfl, Nat.le_succ _, new_AB w.drew X _, Nat.le_refl _, Nat.zero_le _, rfl, rfl⟩⟩
theorem cell_grown {w w' : World} {g N : Nat} {v : Value} (h : w.grownBy w' (some g)) (hne : N ≠ g) (hc : w.cell? ⟨N, 0, none⟩ = some v) : w'.cell? ⟨N, 0, none⟩ = some v := by
  have hlt : N < w.heap.size := by
    rcases Nat.lt_or_ge N w.heap.size with h' | h'
    · exact h'
    · simp [World.cell?, Array.getElem?_eq_none h'] at hc
  exact (World.cell?_of_block (w := w) (a := ⟨N, 0, none⟩) (h.block N hlt (fun e => hne (Option.some.inj e)))).trans hc
theorem srow_own {W : World} {B g n cap : Nat} {l : List (List UInt8)} (h : W.ownsRow B 9 1 (.slice (some ⟨g, 0, none⟩) n cap) n (l.map encStr)) (hn : l.length = n) : SRow W (.slice (some ⟨g, 0, none⟩) n cap) l := by
  subst hn
  rcases h.2 with ⟨h9, _⟩ | ⟨g', c, cur, h9, _, hb, h8, h7, _⟩
  · cases h9
  · cases h9
    refine ⟨_, _, rfl, h8, ⟨by unfold maxLen at h7; omega, fun e => by cases e⟩, fun j t hj => ⟨g, 0, rfl, (Array.getElem?_eq_some_iff.1 hb).1, ?_⟩⟩
    rw [Nat.zero_add]
    exact owns_cell h (by rw [List.getElem?_map, hj]; rfl)
theorem cell_lt {w : World} {N : Nat} {v : Value} (hc : w.cell? ⟨N, 0, none⟩ = some v) : N < w.heap.size := by
  rcases Nat.lt_or_ge N w.heap.size with h' | h'
  · exact h'
  · simp [World.cell?, Array.getElem?_eq_none h'] at hc
theorem lies_ne {g1 g2 H N : Nat} (h : g2 = g1 ∨ g2 = H) (hn : g1 ≠ N) (hl : N < H) : g2 ≠ N := by omega
theorem one_cell (w : World) (s : List UInt8) : (w.alloc (.cells #[.string ⟨s.toArray⟩] 9)).cell? ⟨w.heap.size, 0, none⟩ = some (.string ⟨s.toArray⟩) := by
  rw [Lib.cell_of_heap (World.heap_alloc_new w _)]; rfl
theorem one_row {w : World} {N : Nat} {s : List UInt8} (hc : w.cell? ⟨N, 0, none⟩ = some (.string ⟨s.toArray⟩)) : ∀ (j : Nat) (t : List UInt8), ([s] : List (List UInt8))[j]? = some t → w.cell? ((⟨N, 0, none⟩ : Addr).add j) = some (.string ⟨t.toArray⟩) := by
  intro j t hj
  match j, hj with
  | 0, hj => cases hj; rw [add_pl]; exact hc
end Go.Proofs.YtdjmihnmhmdobaaDoor
