/- What is needed for the walk over the reference's part: what a block of its own kind holds, what all others keep. No condition. -/
import Derived.Test.YtmjfhhladicacaaGreatDoorMpA
import Derived.Test.YtmjfhhladicacaaGreatDoorMimeD
namespace Go.Proofs.YtmjfhhladicacaaGreatDoor
open Go.RowKit Go.Shelf

def ParsR (W : World) (Q : Nat) (s : List UInt8) (n : Nat) : Prop := W.heap[Q]? = some (.cells #[.string ⟨s.toArray⟩, .int .i64 (n : Int)] 41 (0, 0))
/-- what the reference's part returns -/
def PartResR (r : Option PT) (v : Value) (lo : Nat) (W : World) : Prop :=
  match r with
  | none => v = .tuple #[.agg zeroC, .bool false]
  | some p => ∃ pv, v = .tuple #[.agg #[.string ⟨p.ty.toArray⟩, .string ⟨p.bd.toArray⟩, .int .i64 (p.fr : Int), .int .i64 (p.to : Int), .int .i64 (p.ln : Int), pv], .bool true] ∧ Reads W (fun j => lo ≤ j) pv p.ps
theorem parsR_setz {W : World} {Q : Nat} {s : List UInt8} {n : Nat} (h : ParsR W Q s n) (m : Nat) (z : Int) (hz : z = (m : Int)) : ParsR (W.setCell ⟨Q, 1, none⟩ (.int .i64 z)) Q s m := by
  subst hz
  unfold ParsR at h ⊢
  simp only [World.setCell, Array.getElem?_modify, if_pos, h]
  simp
theorem parsR_lt {W : World} {Q : Nat} {s : List UInt8} {n : Nat} (h : ParsR W Q s n) : Q < W.heap.size := (Array.getElem?_eq_some_iff.1 h).1
theorem parsR_alloc {W : World} {Q : Nat} {s : List UInt8} {n : Nat} (h : ParsR W Q s n) (o : Obj) : ParsR (W.alloc o) Q s n := alloc_same h
theorem parsR_below {W W' : World} {Q : Nat} {s : List UInt8} {n : Nat} (h : ParsR W Q s n) (hb : Below W.heap.size W W') : ParsR W' Q s n := below_same hb h
theorem parsR_set2 {W : World} {Q : Nat} {s : List UInt8} {n : Nat} (h : ParsR W Q s n) (p : Addr) (u : Value) (hne : Q ≠ p.block) : ParsR (W.setCell p u) Q s n := setCell_same h hne
theorem six_parsR {W : World} {Q : Nat} {s : List UInt8} {n U : Nat} (h : ParsR W Q s n) (hne : Q ≠ U) (x0 x1 x2 x3 x4 x5 : Value) : ParsR ((((((W.setCell ⟨U, 0, none⟩ x0).setCell ⟨U, 1, none⟩ x1).setCell ⟨U, 2, none⟩ x2).setCell ⟨U, 3, none⟩ x3).setCell ⟨U, 4, none⟩ x4).setCell ⟨U, 5, none⟩ x5) Q s n :=
  parsR_set2 (parsR_set2 (parsR_set2 (parsR_set2 (parsR_set2 (parsR_set2 h _ _ hne) _ _ hne) _ _ hne) _ _ hne) _ _ hne) _ _ hne
theorem set_four {w : World} {U : Nat} {a b c d e f : Value} {T : TypeId} (h : w.heap[U]? = some (.cells #[a, b, c, d, e, f] T (0, 0))) (x : Value) : (w.setCell ⟨U, 4, none⟩ x).heap[U]? = some (.cells #[a, b, c, d, x, f] T (0, 0)) := by
  simp only [World.setCell, Array.getElem?_modify, if_pos, h]
  simp
theorem fineG_but {Q : Nat} {w w' : World} (h : FineG w) (hQ : Q ≠ 0) (hb : ButAt Q w.heap.size w w') : FineG w' := by
  have hlt : 0 < w.heap.size := by
    rcases Nat.lt_or_ge 0 w.heap.size with h' | h'
    · exact h'
    · have := h.1
      simp [World.cell?, Array.getElem?_eq_none h'] at this
  have hk := hb.block 0 hlt (fun e => hQ e.symm)
  exact ⟨(World.cell?_of_block (w := w) (a := ⟨0, 0, none⟩) hk).trans h.1, (World.cell?_of_block (w := w) (a := ⟨0, 1, none⟩) hk).trans h.2⟩
theorem kids_stepR {Q U B : Nat} {wr w6 w7 w8 : World} {o6 : Obj} {ao : Option Addr} {n cap g2 cap2 : Nat} {items : List (PT × Value)} {q : PT} {aq : Option Addr} {cq : Nat} {u : Value}
    (hQB : Q < B) (hUB : U < B) (hBr : B ≤ wr.heap.size) (hown : ∀ k, (Value.slice ao n cap).ownBlock = some k → B ≤ k ∧ k < wr.heap.size)
    (h6 : ButAt Q wr.heap.size wr w6) (h7 : Below w6.heap.size w6 w7) (hg : (w7.alloc o6).grownBy w8 (Value.slice ao n cap).ownBlock)
    (hat : (Value.slice ao n cap).ownBlock = some g2 ∨ g2 = w7.heap.size + 1)
    (hk : ∀ x ∈ items, Reads wr (fun j => B ≤ j ∧ (Value.slice ao n cap).ownBlock ≠ some j) x.2 x.1.ps)
    (hq : Reads w6 (fun j => wr.heap.size ≤ j) (.slice aq q.ps.length cq) q.ps) :
    ∀ x ∈ items ++ [(q, Value.slice aq q.ps.length cq)], Reads (w8.setCell ⟨U, 5, none⟩ u) (fun j => B ≤ j ∧ (Value.slice (some ⟨g2, 0, none⟩) (n + 1) cap2).ownBlock ≠ some j) x.2 x.1.ps := by
  have s2 : (w7.alloc o6).heap.size = w7.heap.size + 1 := alloc_size _ _
  have s5 := h7.size
  have s3 := h6.size
  have s4 := hg.size
  have up : ∀ j, j < w6.heap.size → B ≤ j → (Value.slice ao n cap).ownBlock ≠ some j → (w8.setCell ⟨U, 5, none⟩ u).heap[j]? = w6.heap[j]? := fun j h1 h2 h3 => by
    rw [Below.heap_setCell _ _ _ _ (by show j ≠ U; omega), hg.block j (by omega) (fun e => h3 e.symm)]
    rw [Below.heap_alloc _ _ _ (by omega)]
    exact h7.block j h1
  intro x hx
  rcases List.mem_append.1 hx with hx | hx
  · refine reads_keep (hk x hx) (by rw [set_size]; omega) (fun j h1 h2 => ?_) (fun j h1 h2 => ⟨h1.1, fun e => ?_⟩)
    · rw [up j (by omega) h1.1 h1.2, h6.block j h2 (by omega)]
    · have e2 : g2 = j := Option.some.inj e
      subst e2
      rcases hat with h | h
      · exact h1.2 h
      · omega
  · rw [List.mem_singleton] at hx
    subst hx
    refine reads_keep hq (by rw [set_size]; omega) (fun j h1 h2 => up j h2 ?_ (fun e => ?_)) (fun j h1 h2 => ⟨?_, fun e => ?_⟩)
    · have h3 : wr.heap.size ≤ j := h1
      omega
    · have h3 : wr.heap.size ≤ j := h1
      have := (hown j e).2
      omega
    · have h3 : wr.heap.size ≤ j := h1
      omega
    · have h3 : wr.heap.size ≤ j := h1
      have e2 : g2 = j := Option.some.inj e
      subst e2
      rcases hat with h | h
      · have := (hown g2 h).2
        omega
      · omega
theorem trim_right_snoc (t : List UInt8) (d : UInt8) (cs : List UInt8) (h : cs.contains d = true) : Lib.trimRightS (t ++ [d]) cs = Lib.trimRightS t cs := by
  unfold Lib.trimRightS
  rw [List.reverse_append]
  show (List.dropWhile (cs.contains ·) (d :: t.reverse)).reverse = _
  rw [List.dropWhile_cons_of_pos h]

set_option maxRecDepth 100000 in
set_option maxHeartbeats 16000000 in
/-- too many, or too deep -/
theorem rpart_fail (S : List UInt8) (n fr te Q : Nat) (d : Int) (w : World) (hn : n ≤ 30) (hd0 : 0 ≤ d) (hd : d ≤ 7) (hf : 30 < n + 1 ∨ 6 < d) (hQ : ParsR w Q S n) :
    Calls Tryz.prog 12 #[.pointer (some ⟨Q, 0, none⟩), .int .i64 (fr : Int), .int .i64 (te : Int), .int .i64 d] w fun e w' => e = .returned (.tuple #[.agg zeroC, .bool false]) ∧ ParsR w' Q S (n + 1) ∧ ButAt Q w.heap.size w w' := by
  have hQl := parsR_lt hQ
  have nQR : Q ≠ w.heap.size := Nat.ne_of_lt hQl
  have q1 := (two_cells hQ).2
  have fQ := Lib.frozen_of_heap hQ
  have f1 := fQ 1
  have p0 := parsR_alloc (parsR_setz hQ (n + 1) ((n : Int) + 1) (by omega)) (.cells zeroC 25)
  have b0 := ((ButAt.refl Q w.heap.size w).setQ 1 (.int .i64 ((n : Int) + 1))).alloc (by rw [set_size]; exact Nat.le_refl _) (.cells zeroC 25)
  by_cases h30 : 30 < n + 1
  · have hfz : (30 : Int) < (n : Int) + 1 := by omega
    go_enter Tryz.func12, Tryz.ntmps12
    go_wp2_with fail
    refine bodyPost_ret (results_row_tmp (P := Tryz.prog) rfl _ _ w.heap.size _ _ _ _ rfl (new_at w _ _ _) Tryz.underlying25 rfl part_size) rfl ?_
    exact ⟨rfl, p0, b0⟩
  · have hfz : decide ((30 : Int) < (n : Int) + 1) = false := by rw [decide_eq_false_iff_not]; omega
    have hdz : (6 : Int) < d := by omega
    go_enter Tryz.func12, Tryz.ntmps12
    go_wp2_with fail
    refine bodyPost_ret (results_row_tmp (P := Tryz.prog) rfl _ _ w.heap.size _ _ _ _ rfl (new_at w _ _ _) Tryz.underlying25 rfl part_size) rfl ?_
    exact ⟨rfl, p0, b0⟩
end Go.Proofs.YtmjfhhladicacaaGreatDoor
