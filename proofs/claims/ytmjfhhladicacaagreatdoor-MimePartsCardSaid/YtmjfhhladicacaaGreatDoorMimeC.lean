/- The walk over mime's part: it returns what its plain function says, counts the parts, and leaves all else. Condition: bytealg.MaxLen lies. -/
import Derived.Test.YtmjfhhladicacaaGreatDoorMimeB
namespace Go.Proofs.YtmjfhhladicacaaGreatDoor
open Go.RowKit Go.Shelf

abbrev zeroC : Array Value := #[.string ⟨#[]⟩, .string ⟨#[]⟩, .int .i64 0, .int .i64 0, .int .i64 0, .slice none 0 0]
/-- what part returns -/
def PartRes (r : Option PT) (v : Value) (lo : Nat) (W : World) : Prop :=
  match r with
  | none => v = .tuple #[.agg zeroC, .iface 26 (.int .i64 4)]
  | some p => ∃ pv, v = .tuple #[.agg #[.string ⟨p.ty.toArray⟩, .string ⟨p.bd.toArray⟩, .int .i64 (p.fr : Int), .int .i64 (p.to : Int), .int .i64 (p.ln : Int), pv], .nilIface] ∧ Reads W (fun j => lo ≤ j) pv p.ps
abbrev GM : Nat := 1
theorem maxL_but {Q : Nat} {w w' : World} (h : MaxL w) (hQ : Q ≠ GM) (hb : ButAt Q w.heap.size w w') : MaxL w' := by
  obtain ⟨m, hm⟩ := h
  refine ⟨m, (World.cell?_of_block (w := w) (a := ⟨GM, 0, none⟩) (hb.block GM ?_ (fun e => hQ e.symm))).trans hm⟩
  rcases Nat.lt_or_ge GM w.heap.size with h' | h'
  · exact h'
  · simp [World.cell?, Array.getElem?_eq_none h'] at hm
theorem new_at (w : World) (p : Addr) (u : Value) (o : Obj) : ((w.setCell p u).alloc o).heap[w.heap.size]? = some o := by
  have := World.heap_alloc_new (w.setCell p u) o
  rwa [show (w.setCell p u).heap.size = w.heap.size by simp [World.setCell]] at this
theorem set_size (w : World) (p : Addr) (u : Value) : (w.setCell p u).heap.size = w.heap.size := by simp [World.setCell]
theorem parsAt_setz {W : World} {Q : Nat} {s : List UInt8} {n : Nat} (h : ParsAt W Q s n) (m : Nat) (z : Int) (hz : z = (m : Int)) : ParsAt (W.setCell ⟨Q, 1, none⟩ (.int .i64 z)) Q s m := by
  subst hz; exact parsAt_set h m
theorem alloc_at {w : World} {o x : Obj} {k : Nat} (h : w.heap[k]? = some x) : (w.alloc o).heap[k]? = some x := alloc_same h
/-- a store elsewhere -/
theorem set_at {w : World} {p : Addr} {u : Value} {x : Obj} {k : Nat} (h : w.heap[k]? = some x) (hne : k ≠ p.block) : (w.setCell p u).heap[k]? = some x := setCell_same h hne
theorem set_five {w : World} {U : Nat} {a b c d e f : Value} {T : TypeId} (h : w.heap[U]? = some (.cells #[a, b, c, d, e, f] T (0, 0))) (x : Value) : (w.setCell ⟨U, 5, none⟩ x).heap[U]? = some (.cells #[a, b, c, d, e, x] T (0, 0)) := by
  simp only [World.setCell, Array.getElem?_modify, if_pos, h]
  simp
theorem set_zero_one {w : World} {U : Nat} {a b c d e f : Value} {T : TypeId} (h : w.heap[U]? = some (.cells #[a, b, c, d, e, f] T (0, 0))) (x y : Value) : ((w.setCell ⟨U, 0, none⟩ x).setCell ⟨U, 1, none⟩ y).heap[U]? = some (.cells #[x, y, c, d, e, f] T (0, 0)) := by
  simp only [World.setCell, Array.getElem?_modify, if_pos, h]
  simp

theorem quot_len (v : List UInt8) : (quotL v).length ≤ v.length := by
  unfold quotL
  split
  · rw [List.length_dropLast, List.length_drop]; omega
  · exact Nat.le_refl _
theorem paramF_len (n : List UInt8) : ∀ (Q : List (List UInt8)) (x : List UInt8), paramF n Q = some x → ∃ p ∈ Q, x.length ≤ p.length
  | [], x, h => by simp [paramF] at h
  | p :: r, x, h => by
    unfold paramF at h
    split at h
    · obtain ⟨q, hq, hl⟩ := paramF_len n r x h
      exact ⟨q, List.mem_cons_of_mem _ hq, hl⟩
    · cases h
      have h1 := quot_len (trimB (Lib.cut p [61]).2.1)
      have h2 : (trimB (Lib.cut p [61]).2.1).length ≤ _ := trimS_len (Lib.cut p [61]).2.1 [32, 9]
      have h3 := (cut_len p [61]).2
      exact ⟨p, List.mem_cons_self, by omega⟩
theorem kind_len (H : List UInt8) : (kindF H).2.length ≤ 5 * H.length + 20 := by
  have hK : kindF H = match fieldsL H with | .inl _ => (tpS, []) | .inr l => kindOf l := rfl
  cases hR : fieldsL H with
  | inl x => rw [hR] at hK; rw [hK]; exact Nat.zero_le _
  | inr l =>
    rw [hR] at hK
    have hK2 : kindF H = match getF l ctS with | none => (tpS, []) | some v => (smallL (trimB (Lib.cut v [59]).1), (paramL v bnS).getD []) := hK
    cases hv : getF l ctS with
    | none => rw [hv] at hK2; rw [hK2]; exact Nat.zero_le _
    | some v =>
      have hl := getF_len hR hv
      rw [hv] at hK2
      have hK3 : kindF H = (smallL (trimB (Lib.cut v [59]).1), (paramL v bnS).getD []) := hK2
      rw [hK3]
      show ((paramL v bnS).getD []).length ≤ _
      cases hp : paramL v bnS with
      | none => exact Nat.zero_le _
      | some x =>
        obtain ⟨p, hpm, hpl⟩ := paramF_len bnS _ x hp
        have := split_len (List.mem_of_mem_drop hpm)
        show x.length ≤ _
        omega

theorem set_one {w : World} {U : Nat} {a b c d e f : Value} {T : TypeId} (h : w.heap[U]? = some (.cells #[a, b, c, d, e, f] T (0, 0))) (x : Value) : (w.setCell ⟨U, 1, none⟩ x).heap[U]? = some (.cells #[a, x, c, d, e, f] T (0, 0)) := by
  simp only [World.setCell, Array.getElem?_modify, if_pos, h]
  simp

theorem parsAt_alloc {W : World} {Q : Nat} {s : List UInt8} {n : Nat} (h : ParsAt W Q s n) (o : Obj) : ParsAt (W.alloc o) Q s n := alloc_same h
theorem parsAt_below {W W' : World} {Q : Nat} {s : List UInt8} {n : Nat} (h : ParsAt W Q s n) (hb : Below W.heap.size W W') : ParsAt W' Q s n := below_same hb h
theorem parsAt_set2 {W : World} {Q : Nat} {s : List UInt8} {n : Nat} (h : ParsAt W Q s n) (p : Addr) (u : Value) (hne : Q ≠ p.block) : ParsAt (W.setCell p u) Q s n := setCell_same h hne

theorem six_but {Q B : Nat} {a w : World} (h : ButAt Q B a w) {U : Nat} (hU : B ≤ U) (x0 x1 x2 x3 x4 x5 : Value) : ButAt Q B a ((((((w.setCell ⟨U, 0, none⟩ x0).setCell ⟨U, 1, none⟩ x1).setCell ⟨U, 2, none⟩ x2).setCell ⟨U, 3, none⟩ x3).setCell ⟨U, 4, none⟩ x4).setCell ⟨U, 5, none⟩ x5) :=
  (((((h.setCell (p := ⟨U, 0, none⟩) hU _).setCell (p := ⟨U, 1, none⟩) hU _).setCell (p := ⟨U, 2, none⟩) hU _).setCell (p := ⟨U, 3, none⟩) hU _).setCell (p := ⟨U, 4, none⟩) hU _).setCell (p := ⟨U, 5, none⟩) hU _
theorem six_pars {W : World} {Q : Nat} {s : List UInt8} {n U : Nat} (h : ParsAt W Q s n) (hne : Q ≠ U) (x0 x1 x2 x3 x4 x5 : Value) : ParsAt ((((((W.setCell ⟨U, 0, none⟩ x0).setCell ⟨U, 1, none⟩ x1).setCell ⟨U, 2, none⟩ x2).setCell ⟨U, 3, none⟩ x3).setCell ⟨U, 4, none⟩ x4).setCell ⟨U, 5, none⟩ x5) Q s n :=
  parsAt_set2 (parsAt_set2 (parsAt_set2 (parsAt_set2 (parsAt_set2 (parsAt_set2 h _ _ hne) _ _ hne) _ _ hne) _ _ hne) _ _ hne) _ _ hne
theorem six_heap (W : World) {U : Nat} (x0 x1 x2 x3 x4 x5 : Value) (k : Nat) (hk : k ≠ U) : ((((((W.setCell ⟨U, 0, none⟩ x0).setCell ⟨U, 1, none⟩ x1).setCell ⟨U, 2, none⟩ x2).setCell ⟨U, 3, none⟩ x3).setCell ⟨U, 4, none⟩ x4).setCell ⟨U, 5, none⟩ x5).heap[k]? = W.heap[k]? := by
  rw [Below.heap_setCell _ _ _ _ hk, Below.heap_setCell _ _ _ _ hk, Below.heap_setCell _ _ _ _ hk, Below.heap_setCell _ _ _ _ hk, Below.heap_setCell _ _ _ _ hk, Below.heap_setCell _ _ _ _ hk]
theorem six_size (W : World) {U : Nat} (x0 x1 x2 x3 x4 x5 : Value) : ((((((W.setCell ⟨U, 0, none⟩ x0).setCell ⟨U, 1, none⟩ x1).setCell ⟨U, 2, none⟩ x2).setCell ⟨U, 3, none⟩ x3).setCell ⟨U, 4, none⟩ x4).setCell ⟨U, 5, none⟩ x5).heap.size = W.heap.size := by
  simp [World.setCell]
/-- all below B but two blocks is as it was -/
structure But2 (Q U B : Nat) (a w : World) : Prop where
  os : w.os = a.os
  tape : w.tape = a.tape
  output : w.output = a.output
  size : a.heap.size ≤ w.heap.size
  block : ∀ k, k < B → k ≠ Q → k ≠ U → w.heap[k]? = a.heap[k]?
theorem But2.refl (Q U B : Nat) (w : World) : But2 Q U B w w := ⟨rfl, rfl, rfl, Nat.le_refl _, fun _ _ _ _ => rfl⟩
theorem But2.but {Q U B : Nat} {a b c : World} (h : But2 Q U B a b) (k : ButAt Q B b c) : But2 Q U B a c :=
  ⟨k.os.trans h.os, k.tape.trans h.tape, k.output.trans h.output, Nat.le_trans h.size k.size, fun i hi hq hu => (k.block i hi hq).trans (h.block i hi hq hu)⟩
theorem But2.grown {Q U B : Nat} {a w w' : World} {row : Option Nat} (h : But2 Q U B a w) (hg : w.grownBy w' row) (hB : B ≤ w.heap.size) (hr : ∀ k, row = some k → B ≤ k) : But2 Q U B a w' :=
  h.but (ButAt.of ((Below.refl B w).grown hg hB hr))
theorem But2.setU {Q U B : Nat} {a w : World} (h : But2 Q U B a w) (i : Nat) (u : Value) : But2 Q U B a (w.setCell ⟨U, i, none⟩ u) :=
  ⟨h.os, h.tape, h.output, by rw [set_size]; exact h.size, fun k hk hq hu => (Below.heap_setCell _ _ _ _ hu).trans (h.block k hk hq hu)⟩
theorem But2.toBut {Q U B B' : Nat} {a b w : World} (h : But2 Q U B b w) (k : ButAt Q B' a b) (hB : B' ≤ B) (hU : B' ≤ U) : ButAt Q B' a w :=
  k.trans ⟨h.os, h.tape, h.output, h.size, fun i hi hq => h.block i (Nat.lt_of_lt_of_le hi hB) hq (by omega)⟩
theorem owns_but {w w' : World} {Q B : Nat} {e : TypeId} {sz : Nat} {v : Value} {n : Nat} {xs : List Value} {cs : Array Value} {tQ : TypeId} {fz : Nat × Nat} (h : w.ownsRow B e sz v n xs) (hb : ButAt Q w.heap.size w w') (hQ : w.heap[Q]? = some (.cells cs tQ fz)) (hne : tQ ≠ e) : w'.ownsRow B e sz v n xs := by
  refine owns_same h ?_
  intro k o hk ho
  by_cases hkQ : k = Q
  · rw [hkQ, hQ] at hk
    obtain ⟨c, fz', rfl⟩ := ho
    cases hk; exact absurd rfl hne
  · exact (hb.block k (Array.getElem?_eq_some_iff.1 hk).1 hkQ).trans hk
theorem rising_at : ∀ (l : List (Nat × Nat)) (a b : Nat) (k : Nat) (c : Nat × Nat), Rising l a b → l[k]? = some c → c.1 ≤ c.2 ∧ c.2 ≤ b
  | [], _, _, _, _, _, h => by simp at h
  | x :: l, a, b, 0, c, hr, h => by
    simp at h; subst h
    exact ⟨hr.2.1, rising_le l _ _ hr.2.2⟩
  | x :: l, a, b, k + 1, c, hr, h => rising_at l x.2 b k c hr.2.2 (by simpa using h)
theorem partsF_step {f : Nat → Nat → Nat → Option PT × Nat} {L : List (Nat × Nat)} {k n : Nat} {out : List PT} {c : Nat × Nat} (hc : L[k]? = some c) : partsF f (L.drop k) n out = match f n c.1 c.2 with | (none, n') => (none, n') | (some q, n') => partsF f (L.drop (k + 1)) n' (out ++ [q]) := by
  have hk : k < L.length := (List.getElem?_eq_some_iff.1 hc).1
  have e : L[k] = c := by rw [List.getElem?_eq_getElem hk] at hc; exact Option.some.inj hc
  rw [List.drop_eq_getElem_cons hk, e, partsF]
  cases f n c.1 c.2 with
  | mk o n' => cases o <;> rfl
theorem part_le (s : List UInt8) (g n fr to' : Nat) (h : fr ≤ to') (hs : to' ≤ s.length) (hn : n ≤ 30) (q : PT) (m : Nat) (hr : partF s g n fr to' = (some q, m)) : m ≤ 30 := by
  have := (part_good s g n fr to' h hs).2.1 hn
  rw [hr] at this
  exact this (by simp)

theorem reads_slice {W : World} {ok : Nat → Prop} {v : Value} {l : List PT} (h : Reads W ok v l) : ∃ ao cap, v = .slice ao l.length cap := by
  cases h
  · exact ⟨_, _, rfl⟩
  · exact ⟨_, _, rfl⟩
theorem reads_one {W : World} {ok : Nat → Prop} {v : Value} {l : List PT} (h : Reads W ok v l) : v.oneCell' = true := by
  cases h <;> rfl
theorem kids_six {w : World} (q : PT) (pv : Value) (h : pv.oneCell' = true) : ∀ u ∈ [Value.string ⟨q.ty.toArray⟩, .string ⟨q.bd.toArray⟩, .int .i64 (q.fr : Int), .int .i64 (q.to : Int), .int .i64 (q.ln : Int), pv], u.oneCell' = true := by
  intro u hu
  simp only [List.mem_cons, List.not_mem_nil, or_false] at hu
  rcases hu with rfl | rfl | rfl | rfl | rfl | rfl
  · rfl
  · rfl
  · rfl
  · rfl
  · rfl
  · exact h

theorem alloc_size (w : World) (o : Obj) : (w.alloc o).heap.size = w.heap.size + 1 := by
  show (w.heap.push o).size = _
  exact Array.size_push _
theorem kids_step {Q U B : Nat} {wr w6 w7 w8 : World} {oc o6 : Obj} {ao : Option Addr} {n cap g2 cap2 : Nat} {items : List (PT × Value)} {q : PT} {aq : Option Addr} {cq : Nat} {u : Value}
    (hQB : Q < B) (hUB : U < B) (hBr : B ≤ wr.heap.size) (hown : ∀ k, (Value.slice ao n cap).ownBlock = some k → B ≤ k ∧ k < wr.heap.size)
    (h6 : ButAt Q (wr.alloc oc).heap.size (wr.alloc oc) w6) (h7 : Below w6.heap.size w6 w7) (hg : (w7.alloc o6).grownBy w8 (Value.slice ao n cap).ownBlock)
    (hat : (Value.slice ao n cap).ownBlock = some g2 ∨ g2 = w7.heap.size + 1)
    (hk : ∀ x ∈ items, Reads wr (fun j => B ≤ j ∧ (Value.slice ao n cap).ownBlock ≠ some j) x.2 x.1.ps)
    (hq : Reads w6 (fun j => (wr.alloc oc).heap.size ≤ j) (.slice aq q.ps.length cq) q.ps) :
    ∀ x ∈ items ++ [(q, Value.slice aq q.ps.length cq)], Reads (w8.setCell ⟨U, 5, none⟩ u) (fun j => B ≤ j ∧ (Value.slice (some ⟨g2, 0, none⟩) (n + 1) cap2).ownBlock ≠ some j) x.2 x.1.ps := by
  have s1 : (wr.alloc oc).heap.size = wr.heap.size + 1 := alloc_size _ _
  have s2 : (w7.alloc o6).heap.size = w7.heap.size + 1 := alloc_size _ _
  have s5 := h7.size
  have s3 := h6.size
  have s4 := hg.size
  have up : ∀ j, j < w6.heap.size → B ≤ j → (Value.slice ao n cap).ownBlock ≠ some j → (w8.setCell ⟨U, 5, none⟩ u).heap[j]? = w6.heap[j]? := fun j h1 h2 h3 => by
    rw [Below.heap_setCell _ _ _ _ (by show j ≠ U; omega), hg.block j (by omega) (fun e => h3 e.symm)]
    rw [Below.heap_alloc _ _ _ (by omega)]
    exact h7.block j h1
  intro x hx
  rcases List.mem_append.1 hx with hx | hx
  · refine reads_keep (hk x hx) (by rw [set_size]; omega) (fun j h1 h2 => ?_) (fun j h1 h2 => ⟨h1.1, fun e => ?_⟩)
    · rw [up j (by omega) h1.1 h1.2, h6.block j (by omega) (by omega)]
      exact Below.heap_alloc _ _ _ h2
    · have e2 : g2 = j := Option.some.inj e
      subst e2
      rcases hat with h | h
      · exact h1.2 h
      · omega
  · rw [List.mem_singleton] at hx
    subst hx
    refine reads_keep hq (by rw [set_size]; omega) (fun j h1 h2 => up j h2 ?_ (fun e => ?_)) (fun j h1 h2 => ⟨?_, fun e => ?_⟩)
    · have h3 : (wr.alloc oc).heap.size ≤ j := h1
      omega
    · have h3 : (wr.alloc oc).heap.size ≤ j := h1
      have := (hown j e).2
      omega
    · have h3 : (wr.alloc oc).heap.size ≤ j := h1
      omega
    · have h3 : (wr.alloc oc).heap.size ≤ j := h1
      have e2 : g2 = j := Option.some.inj e
      subst e2
      rcases hat with h | h
      · have := (hown g2 h).2
        omega
      · omega

set_option maxRecDepth 100000 in
set_option maxHeartbeats 16000000 in
/-- too many, or too deep -/
theorem part_fail (S : List UInt8) (n fr te Q : Nat) (d : Int) (w : World) (hn : n ≤ 30) (hd0 : 0 ≤ d) (hd : d ≤ 7) (hf : 30 < n + 1 ∨ 6 < d) (hQ : ParsAt w Q S n) :
    Calls Tryz.prog 13 #[.pointer (some ⟨Q, 0, none⟩), .int .i64 (fr : Int), .int .i64 (te : Int), .int .i64 d] w fun e w' => e = .returned (.tuple #[.agg zeroC, .iface 26 (.int .i64 4)]) ∧ ParsAt w' Q S (n + 1) ∧ ButAt Q w.heap.size w w' := by
  have hQl := parsAt_lt hQ
  have q1 := (two_cells hQ).2
  have fQ := Lib.frozen_of_heap hQ
  have f1 := fQ 1
  by_cases h30 : 30 < n + 1
  · have hfz : (30 : Int) < (n : Int) + 1 := by omega
    go_enter Tryz.func13, Tryz.ntmps13
    go_wp2_with fail
    refine bodyPost_ret (results_row_tmp (P := Tryz.prog) rfl _ _ w.heap.size _ _ _ _ rfl (new_at w _ _ _) Tryz.underlying25 rfl part_size) rfl ?_
    exact ⟨rfl, alloc_at (parsAt_setz hQ (n + 1) _ (by omega)), ((ButAt.refl _ _ _).setQ 1 _).alloc (by rw [set_size]; exact Nat.le_refl _) _⟩
  · have hfz : decide ((30 : Int) < (n : Int) + 1) = false := by rw [decide_eq_false_iff_not]; omega
    have hdz : (6 : Int) < d := by omega
    go_enter Tryz.func13, Tryz.ntmps13
    go_wp2_with fail
    refine bodyPost_ret (results_row_tmp (P := Tryz.prog) rfl _ _ w.heap.size _ _ _ _ rfl (new_at w _ _ _) Tryz.underlying25 rfl part_size) rfl ?_
    exact ⟨rfl, alloc_at (parsAt_setz hQ (n + 1) _ (by omega)), ((ButAt.refl _ _ _).setQ 1 _).alloc (by rw [set_size]; exact Nat.le_refl _) _⟩

set_option maxRecDepth 100000 in
set_option maxHeartbeats 32000000 in
theorem part_any (S : List UInt8) (hS : S.length ≤ 9000) : ∀ (g n fr te Q : Nat) (d : Int) (w : World), g ≤ 7 → d = 7 - (g : Int) → fr ≤ te → te ≤ S.length → n ≤ 30 → ParsAt w Q S n → Q ≠ GM → MaxL w →
    Calls Tryz.prog 13 #[.pointer (some ⟨Q, 0, none⟩), .int .i64 (fr : Int), .int .i64 (te : Int), .int .i64 d] w fun e w' => ∃ v, e = .returned v ∧ PartRes (partF S g n fr te).1 v w.heap.size w' ∧ ParsAt w' Q S (partF S g n fr te).2 ∧ ButAt Q w.heap.size w w'
  | 0, n, fr, te, Q, d, w, hg, hd, hft, hte, hn, hQ, hQG, hM => by
    refine (part_fail S n fr te Q d w hn (by omega) (by omega) (Or.inr (by omega)) hQ).mono ?_
    rintro e w' ⟨rfl, h1, h2⟩
    exact ⟨_, rfl, rfl, h1, h2⟩
  | g + 1, n, fr, te, Q, d, w, hg, hd, hft, hte, hn, hQ, hQG, hM => by
    by_cases h30 : 30 < n + 1
    · refine (part_fail S n fr te Q d w hn (by omega) (by omega) (Or.inl h30) hQ).mono ?_
      have e : partF S (g + 1) n fr te = (none, n + 1) := by rw [partF, if_pos h30]
      rw [e]
      rintro e w' ⟨rfl, h1, h2⟩
      exact ⟨_, rfl, rfl, h1, h2⟩
    have IH := part_any S hS g
    have hQl := parsAt_lt hQ
    have q0 := (two_cells hQ).1
    have q1 := (two_cells hQ).2
    have fQ := Lib.frozen_of_heap hQ
    have f1 := fQ 1
    have hfz : decide ((30 : Int) < (n : Int) + 1) = false := by rw [decide_eq_false_iff_not]; omega
    have hdz : decide ((6 : Int) < d) = false := by rw [decide_eq_false_iff_not]; omega
    have hftz : (fr : Int) ≤ (te : Int) := by omega
    have htez : (te : Int) ≤ (S.length : Int) := by omega
    have hts := text_size S
    obtain ⟨R, hR⟩ : ∃ R, partF S (g + 1) n fr te = R := ⟨_, rfl⟩
    rw [hR]
    rw [partF, if_neg h30] at hR
    simp only at hR
    obtain ⟨TX, hTX⟩ : ∃ TX, (S.drop fr).take (te - fr) = TX := ⟨_, rfl⟩
    have hpt : (⟨S.toArray⟩ : ByteArray).extract fr te = ⟨TX.toArray⟩ := by rw [← hTX]; exact text_part S fr te
    have hTl : TX.length = te - fr := by rw [← hTX, List.length_take, List.length_drop]; omega
    have hHl := splitHd_take TX
    have hHc := splitHd_cat TX
    have cS := fun W hM => splitHd_any TX W (by omega) hM
    rw [← hpt] at cS
    rw [hTX] at hR
    obtain ⟨⟨H, BD⟩, hH⟩ : ∃ H, splitHd TX = H := ⟨_, rfl⟩
    rw [hH] at cS hR hHl hHc
    simp only at cS hR hHl hHc
    have hBl : BD.length ≤ 9000 := by have := congrArg List.length hHc; rw [List.length_append] at this; omega
    have cN := fun W hM => count_nl BD W (by omega) hM
    have cK := fun W hM => kind_any H W (by omega) hM
    have hHs := text_size H
    obtain ⟨X, hX⟩ : ∃ X, fr + H.length = X := ⟨_, rfl⟩
    have hXz : (fr : Int) + (H.length : Int) = (X : Int) := by omega
    have hXt : X ≤ te := by omega
    rw [hX] at hR
    obtain ⟨LN, hLN⟩ : ∃ LN, Lib.count BD [10] = LN := ⟨_, rfl⟩
    rw [hLN] at cN hR
    obtain ⟨⟨TY, BN⟩, hK⟩ : ∃ K, kindF H = K := ⟨_, rfl⟩
    have hBNl : BN.length ≤ 1000000 := by
      have := kind_len H
      rw [hK] at this
      simp only at this
      omega
    rw [hK] at cK hR
    simp only at cK hR
    have y := (((ButAt.refl Q w.heap.size w).setQ 1 (.int .i64 ((n : Int) + 1))).alloc (by rw [set_size]; exact Nat.le_refl _) (.cells zeroC 25))
    have p := parsAt_alloc (parsAt_setz hQ (n + 1) ((n : Int) + 1) (by omega)) (.cells zeroC 25)
    have z := new_at w ⟨Q, 1, none⟩ (.int .i64 ((n : Int) + 1)) (.cells zeroC 25)
    have HR := Lib.hid hR
    have HD := Lib.hid hd
    clear hR hK hLN hX hH hpt hTX hHc hd
    have cH : ∀ W, Calls Tryz.prog 29 #[.string ⟨TY.toArray⟩, .string ⟨#[109, 117, 108, 116, 105, 112, 97, 114, 116, 47]⟩] W fun e w' => e = .returned (.bool (Lib.hasPrefix TY mpS)) ∧ w' = W := fun W => Tryz.strings_HasPrefix ⟨TY.toArray⟩ ⟨#[109, 117, 108, 116, 105, 112, 97, 114, 116, 47]⟩ W
    by_cases hm : multi (TY, BN) = true
    · have hcr := cuts_rise S te BN X (te + 1) X none [] X (Nat.le_refl _) (Nat.le_refl _) hXt (fun o ho => by cases ho)
      have hR := HR.out
      rw [if_pos hm] at hR
      have hbne : BN ≠ [] := by
        rintro rfl
        unfold multi at hm
        simp at hm
      have hpx : Lib.hasPrefix TY mpS = true := by
        unfold multi at hm
        rw [Bool.and_eq_true] at hm
        exact hm.1
      rw [hpx] at cH
      have hemp : (⟨BN.toArray⟩ : ByteArray).toList.isEmpty = false := by rw [Lib.toList_data]; simpa using hbne
      have hemp2 : BN.isEmpty = false := by simpa using hbne
      have cC0 := fun W hp hM => cuts_any S BN Q (n + 1) X te W (by omega) hBNl hXt hte hp hM
      generalize cutsF S te BN (te + 1) X none [] = L at hR cC0 hcr
      have cC : ∀ W, ParsAt W Q S (n + 1) → MaxL W → Calls Tryz.prog 30 #[.pointer (some ⟨Q, 0, none⟩), .int .i64 (X : Int), .int .i64 (te : Int), .string ⟨BN.toArray⟩] W fun e w' => ∃ ao cap, e = .returned (.slice ao L.length cap) ∧ (Hid (L.length ≤ te ∧ ∀ (j : Nat) (c : Nat × Nat), L[j]? = some c → ∃ g, ao = some ⟨g, 0, none⟩ ∧ W.heap.size ≤ g ∧ g < w'.heap.size ∧ w'.cell? ⟨g, j * 2, none⟩ = some (.int .i64 (c.1 : Int)) ∧ w'.cell? ⟨g, j * 2 + 1, none⟩ = some (.int .i64 (c.2 : Int)))) ∧ Below W.heap.size W w' := fun W hp hM => by
        refine (cC0 W hp hM).mono ?_
        rintro e w' ⟨v, rfl, ⟨ao, cap, rfl, h1⟩, h2, h3⟩
        exact ⟨ao, cap, rfl, ⟨h2, h1⟩, h3⟩
      obtain ⟨RR, hRR⟩ : ∃ RR, partsF (partF S g) L (n + 1) [] = RR := ⟨_, rfl⟩
      rw [hRR] at hR
      have HRR := Lib.hid hRR
      have HR2 := Lib.hid hR
      have HCR := Lib.hid hcr
      clear HR hR hRR hm hbne hpx cC0 hcr
      go_enter Tryz.func13, Tryz.ntmps13
      go_wp2_with (first
        | (go_at_call 26; go_loud (with_reducible refine (cS _ (maxL_but hM hQG y)).mono ?_; rintro e w2 ⟨rfl, h⟩; have p := parsAt_below p h; have z := below_same h z; have y := y.next y.size h; have zl := (Array.getElem?_eq_some_iff.1 z).1))
        | (go_at_call 27; with_reducible refine (cN _ (maxL_but hM hQG y)).mono ?_; rintro e w9 ⟨rfl, hw⟩; rw [hw]; clear hw; have hx := World.heap_alloc_new w2 (.cells #[.string ⟨#[]⟩, .string ⟨#[]⟩, .int .i64 (X : Int), .int .i64 (te : Int), .int .i64 (LN : Int), .slice none 0 0] 25); have p := parsAt_alloc p (.cells #[.string ⟨#[]⟩, .string ⟨#[]⟩, .int .i64 (X : Int), .int .i64 (te : Int), .int .i64 (LN : Int), .slice none 0 0] 25); have z := alloc_at (o := .cells #[.string ⟨#[]⟩, .string ⟨#[]⟩, .int .i64 (X : Int), .int .i64 (te : Int), .int .i64 (LN : Int), .slice none 0 0] 25) z; have y := y.alloc y.size (.cells #[.string ⟨#[]⟩, .string ⟨#[]⟩, .int .i64 (X : Int), .int .i64 (te : Int), .int .i64 (LN : Int), .slice none 0 0] 25))
        | (go_at_call 28; with_reducible refine (cK _ (maxL_but hM hQG y)).mono ?_; rintro e w3 ⟨rfl, h⟩; have p := parsAt_below p h; have z := below_same h z; have hx := below_same h hx; have y := y.next y.size h; have x0 := (six_cells hx).1; have x1 := (six_cells hx).2.1; have x2 := (six_cells hx).2.2.1; have x3 := (six_cells hx).2.2.2.1; have x4 := (six_cells hx).2.2.2.2.1; have x5 := (six_cells hx).2.2.2.2.2; have fx0 := Lib.frozen_of_heap hx 0; have fx1 := Lib.frozen_of_heap hx 1; have u0 := (six_cells z).1; have u1 := (six_cells z).2.1; have u2 := (six_cells z).2.2.1; have u3 := (six_cells z).2.2.2.1; have u4 := (six_cells z).2.2.2.2.1; have u5 := (six_cells z).2.2.2.2.2; have fz := Lib.frozen_of_heap z; have hUB := Nat.le_of_lt zl; have nQU := Nat.ne_of_lt (Nat.lt_of_lt_of_le hQl hUB); have sz3 := h.size)
        | (go_at_call 29; with_reducible refine (cH _).mono ?_; rintro e w10 ⟨rfl, hw⟩; rw [hw]; clear hw; have hx4 := set_zero_one hx (.string ⟨TY.toArray⟩) (.string ⟨BN.toArray⟩); have hx5 := set_one hx4 (.string ⟨#[]⟩); have k1 := (six_cells hx5).2.1; have nU := Nat.ne_of_lt zl; have p := parsAt_set2 (parsAt_set2 p ⟨w2.heap.size, 0, none⟩ (.string ⟨TY.toArray⟩) nQU) ⟨w2.heap.size, 1, none⟩ (.string ⟨BN.toArray⟩) nQU; have z := set_at (p := ⟨w2.heap.size, 1, none⟩) (u := .string ⟨BN.toArray⟩) (set_at (p := ⟨w2.heap.size, 0, none⟩) (u := .string ⟨TY.toArray⟩) z nU) nU; have y := (y.setCell (p := ⟨w2.heap.size, 0, none⟩) hUB (.string ⟨TY.toArray⟩)).setCell (p := ⟨w2.heap.size, 1, none⟩) hUB (.string ⟨BN.toArray⟩))
        | (go_at_call 30; with_reducible refine (cC _ p (maxL_but hM hQG y)).mono ?_; rintro e w5 ⟨ao, cap, rfl, hcc, h⟩; have p := parsAt_below p h; have z := below_same h z; have hx := below_same h hx4; have y := y.next y.size h; have sz5 := h.size))
      have hLl := hcc.out.1
      have sU : w2.heap.size < w3.heap.size := by simp at sz3; omega
      have s35 : w3.heap.size ≤ w5.heap.size := by rw [set_size, set_size] at sz5; exact sz5
      have HCC : Hid (∀ (j : Nat) (c : Nat × Nat), L[j]? = some c → ∃ g, ao = some ⟨g, 0, none⟩ ∧ w3.heap.size ≤ g ∧ g < w5.heap.size ∧ w5.cell? ⟨g, j * 2, none⟩ = some (.int .i64 (c.1 : Int)) ∧ w5.cell? ⟨g, j * 2 + 1, none⟩ = some (.int .i64 (c.2 : Int))) := by
        intro j c hj
        obtain ⟨g0, a1, a2, a3, a4, a5⟩ := hcc.out.2 j c hj
        rw [set_size, set_size] at a2
        exact ⟨g0, a1, a2, a3, a4, a5⟩
      have y5 := y
      have p5 := p
      have z5 := z
      have x5h := hx
      clear x0 x1 x2 x3 x4 x5 fx0 fx1 u0 u1 u2 u3 u4 u5 fz hx4 hx5 k1 hcc cC cH cK cN cS y p z hx
      go_loopg [80] L.length (fun g80 s80 wr => ∃ (k n' : Nat) (items : List (PT × Value)) (sv : Value), k + g80 = L.length ∧ s80 = .int .i64 (k : Int) ∧ items.length = k ∧ n' ≤ 30 ∧
        wr.heap[w2.heap.size]? = some (.cells #[.string ⟨TY.toArray⟩, .string ⟨BN.toArray⟩, .int .i64 (X : Int), .int .i64 (te : Int), .int .i64 (LN : Int), sv] 25 (0, 0)) ∧ ParsAt wr Q S n' ∧
        wr.ownsRow w5.heap.size 25 6 sv items.length (cellsL items) ∧ But2 Q w2.heap.size w5.heap.size w5 wr ∧
        Hid ((∀ x ∈ items, Reads wr (fun j => w5.heap.size ≤ j ∧ sv.ownBlock ≠ some j) x.2 x.1.ps) ∧ partsF (partF S g) (L.drop k) n' (items.map (·.1)) = RR))
      case atStart => exact ⟨0, n + 1, [], .slice none 0 0, by omega, rfl, rfl, by omega, x5h, p5, World.ownsRow_nil _ _ _ _, But2.refl _ _ _ _, (by intro x hx; simp at hx), HRR.out⟩
      case round =>
        obtain ⟨k, n', items, sv, hk, rfl, hil, hn', hx, p, hown, b2, HK⟩ := hrel
        obtain ⟨ao6, cap6, rfl, hao6⟩ := owns_slice' hown
        have zr := (b2.block _ (by omega) (Nat.ne_of_gt hQl) (by omega)).trans z5
        by_cases hlt : k < L.length
        · obtain ⟨g', rfl⟩ : ∃ g', gk = g' + 1 := ⟨gk - 1, by omega⟩
          obtain ⟨c, hc⟩ : ∃ c, L[k]? = some c := ⟨L[k], List.getElem?_eq_getElem hlt⟩
          obtain ⟨g0, rfl, hg0, hg1, hc1, hc2⟩ := HCC.out k c hc
          have hcb := b2.block g0 hg1 (by omega) (by omega)
          have d1 := (World.cell?_of_block (w := w5) (a := ⟨g0, k * 2, none⟩) hcb).trans hc1
          have d2 := (World.cell?_of_block (w := w5) (a := ⟨g0, k * 2 + 1, none⟩) hcb).trans hc2
          obtain ⟨hc12, hcte⟩ := rising_at L X te k c HCR.out hc
          have hst := partsF_step (f := partF S g) (n := n') (out := items.map (·.1)) hc
          rw [HK.out.2] at hst
          have cP := fun W hp hm => IH n' c.1 c.2 Q (d + 1) W (by omega) (by have := HD.out; omega) hc12 (by omega) hn' hp hQG hm
          have hle := fun q m h => part_le S g n' c.1 c.2 hc12 (by omega) hn' q m h
          have hDz := HD.out
          have hd0 : 0 ≤ d := by omega
          have hd6 : d ≤ 6 := by omega
          clear hDz hc1 hc2 hcb IH
          have y := b2.toBut y5 y5.size hUB
          have ya := y.alloc y.size (.cells #[.int .i64 (c.1 : Int), .int .i64 (c.2 : Int)] 69)
          have pa := parsAt_alloc p (.cells #[.int .i64 (c.1 : Int), .int .i64 (c.2 : Int)] 69)
          have pah : (wr.alloc (.cells #[.int .i64 (c.1 : Int), .int .i64 (c.2 : Int)] 69)).heap[Q]? = some (.cells #[.string ⟨S.toArray⟩, .int .i64 (n' : Int)] 45 (0, 0)) := pa
          have tne : 45 ≠ 25 := by decide
          have mA := maxL_but hM hQG ya
          have za := alloc_at (o := .cells #[.int .i64 (c.1 : Int), .int .i64 (c.2 : Int)] 69) zr
          have xa := alloc_at (o := .cells #[.int .i64 (c.1 : Int), .int .i64 (c.2 : Int)] 69) hx
          have zal := (Array.getElem?_eq_some_iff.1 za).1
          have xal := (Array.getElem?_eq_some_iff.1 xa).1
          have nRQ : w.heap.size ≠ Q := Nat.ne_of_gt hQl
          have nUQ : w2.heap.size ≠ Q := Ne.symm nQU
          have nQR : Q ≠ w.heap.size := Nat.ne_of_lt hQl
          have HIL := Lib.hid hil
          have HK2 := Lib.hid HK.out.1
          clear hil HK
          cases hpr : partF S g n' c.1 c.2 with
          | mk r n2 =>
            rw [hpr] at cP hst hle
            cases r with
            | none =>
              have hstn : RR = (none, n2) := hst
              have hR3 := HR2.out
              rw [hstn] at hR3
              have HX : Hid (((none, n2) : Option PT × Nat) = R) := hR3
              have cPn : ∀ W, ParsAt W Q S n' → MaxL W → Calls Tryz.prog 13 #[.pointer (some ⟨Q, 0, none⟩), .int .i64 (c.1 : Int), .int .i64 (c.2 : Int), .int .i64 (d + 1)] W fun e w' => e = .returned (.tuple #[.agg zeroC, .iface 26 (.int .i64 4)]) ∧ ParsAt w' Q S n2 ∧ ButAt Q W.heap.size W w' := fun W a b => by
                refine (cP W a b).mono ?_
                rintro e w' ⟨v, rfl, h1, h2, h3⟩
                have h1' : v = .tuple #[.agg zeroC, .iface 26 (.int .i64 4)] := h1
                exact ⟨by rw [h1'], h2, h3⟩
              clear hst hstn hR3 hle hpr cP
              go_wp2_with (first
                | (go_at_call 13; with_reducible refine (cPn _ pa mA).mono ?_; rintro e w6 ⟨rfl, p6, h6⟩; have z6 := (h6.block _ zal nRQ).trans za; have z7 := alloc_at (o := .cells zeroC 25) z6; have u0 := (six_cells z7).1; have u1 := (six_cells z7).2.1; have u2 := (six_cells z7).2.2.1; have u3 := (six_cells z7).2.2.2.1; have u4 := (six_cells z7).2.2.2.2.1; have u5 := (six_cells z7).2.2.2.2.2; have fz := Lib.frozen_of_heap z7))
              refine bodyPost_ret (results_row_tmp (P := Tryz.prog) rfl _ _ w.heap.size _ _ _ _ rfl (set_six z7 _ _ _ _ _ _) Tryz.underlying25 rfl part_size) rfl ?_
              refine ⟨_, rfl, by rw [← HX.out]; rfl, by rw [← HX.out]; exact six_pars (parsAt_alloc p6 _) nQR _ _ _ _ _ _, six_but ((ya.trans (h6.mono ya.size)).alloc (Nat.le_trans ya.size h6.size) _) (Nat.le_refl _) _ _ _ _ _ _⟩
            | some q =>
              have HS : Hid (partsF (partF S g) (L.drop (k + 1)) n2 ((items ++ [(q, Value.nilIface)]).map (·.1)) = RR) := by
                have h2 : RR = partsF (partF S g) (L.drop (k + 1)) n2 (items.map (·.1) ++ [q]) := hst
                show _ = _
                rw [h2]; simp
              have hn2 := hle q n2 rfl
              have cPs : ∀ W, ParsAt W Q S n' → MaxL W → Calls Tryz.prog 13 #[.pointer (some ⟨Q, 0, none⟩), .int .i64 (c.1 : Int), .int .i64 (c.2 : Int), .int .i64 (d + 1)] W fun e w' => ∃ aq cq, e = .returned (.tuple #[.agg #[.string ⟨q.ty.toArray⟩, .string ⟨q.bd.toArray⟩, .int .i64 (q.fr : Int), .int .i64 (q.to : Int), .int .i64 (q.ln : Int), .slice aq q.ps.length cq], .nilIface]) ∧ Reads w' (fun j => W.heap.size ≤ j) (.slice aq q.ps.length cq) q.ps ∧ ParsAt w' Q S n2 ∧ ButAt Q W.heap.size W w' := fun W a b => by
                refine (cP W a b).mono ?_
                rintro e w' ⟨v, rfl, ⟨pv, h1, h2⟩, h3, h4⟩
                obtain ⟨aq, cq, rfl⟩ := reads_slice h2
                exact ⟨aq, cq, by rw [h1], h2, h3, h4⟩
              clear hst hle hpr cP HR2
              go_wp2_with (first
                | (go_at_call 13; with_reducible refine (cPs _ pa mA).mono ?_; rintro e w6 ⟨aq, cq, rfl, hrd, p6, h6⟩; have x6 := (h6.block _ xal nUQ).trans xa; have x7 := alloc_at (o := .cells #[.string ⟨q.ty.toArray⟩, .string ⟨q.bd.toArray⟩, .int .i64 (q.fr : Int), .int .i64 (q.to : Int), .int .i64 (q.ln : Int), .slice aq q.ps.length cq] 25) x6; have x75 := (six_cells x7).2.2.2.2.2; have o6 := owns_but (hown.alloc (.cells #[.int .i64 (c.1 : Int), .int .i64 (c.2 : Int)] 69)) h6 pah tne; have o7 := o6.alloc (.cells #[.string ⟨q.ty.toArray⟩, .string ⟨q.bd.toArray⟩, .int .i64 (q.fr : Int), .int .i64 (q.to : Int), .int .i64 (q.ln : Int), .slice aq q.ps.length cq] 25); have hy0 := World.heap_alloc_new w6 (.cells #[.string ⟨q.ty.toArray⟩, .string ⟨q.bd.toArray⟩, .int .i64 (q.fr : Int), .int .i64 (q.to : Int), .int .i64 (q.ln : Int), .slice aq q.ps.length cq] 25); have v0 := (six_cells hy0).1; have v1 := (six_cells hy0).2.1; have v2 := (six_cells hy0).2.2.1; have v3 := (six_cells hy0).2.2.2.1; have v4 := (six_cells hy0).2.2.2.2.1; have v5 := (six_cells hy0).2.2.2.2.2)
                | (at_builtin; go_must (refine wpList_app6 rfl _ _ 23 rfl 25 Tryz.underlying23 part_info rfl w5.heap.size (.slice ao6 items.length cap6) _ _ _ rfl o7 _ _ _ _ _ _ _ rfl ?hN ?h1 ?c3 (by decide) ?c5 ?_)))
              case hN => rw [alloc_size]
              case h1 => exact kids_six (w := w) q _ rfl
              case c3 => have := HIL.out; omega
              case c5 => exact Nat.le_trans b2.size (Nat.le_trans (Nat.le_succ _) (Nat.le_trans (by simpa using h6.size) (by rw [alloc_size]; exact Nat.le_succ _)))
              intro g2 cap2 w8 own8 hg8 hat8
              have hUw6 := (Array.getElem?_eq_some_iff.1 x6).1
              have hQ6 := parsAt_lt p6
              have hU5 : w2.heap.size < w5.heap.size := Nat.lt_of_lt_of_le sU s35
              have hQ5 : Q < w5.heap.size := Nat.lt_of_lt_of_le hQl (Nat.le_trans hUB (Nat.le_of_lt hU5))
              have x8 := (hg8.block w2.heap.size (by rw [alloc_size, alloc_size]; omega) (fun e => by have := (o7.lt _ e.symm).1; omega)).trans (alloc_at x7)
              have p8 : ParsAt w8 Q S n2 := (hg8.block Q (by rw [alloc_size, alloc_size]; omega) (fun e => by have := (o7.lt _ e.symm).1; omega)).trans (parsAt_alloc (parsAt_alloc p6 (.cells #[.string ⟨q.ty.toArray⟩, .string ⟨q.bd.toArray⟩, .int .i64 (q.fr : Int), .int .i64 (q.to : Int), .int .i64 (q.ln : Int), .slice aq q.ps.length cq] 25)) (.cells #[.string ⟨q.ty.toArray⟩, .string ⟨q.bd.toArray⟩, .int .i64 (q.fr : Int), .int .i64 (q.to : Int), .int .i64 (q.ln : Int), .slice aq q.ps.length cq] 25))
              have h67 := (Below.refl w6.heap.size w6).alloc (Nat.le_refl _) (.cells #[.string ⟨q.ty.toArray⟩, .string ⟨q.bd.toArray⟩, .int .i64 (q.fr : Int), .int .i64 (q.to : Int), .int .i64 (q.ln : Int), .slice aq q.ps.length cq] 25)
              have hk9 := kids_step (cap2 := cap2) (u := .slice (some ⟨g2, 0, none⟩) (items.length + 1) cap2) hQ5 hU5 b2.size hown.lt h6 h67 hg8 (by rw [alloc_size]; exact hat8) HK2.out hrd
              have hs5 : w5.heap.size ≤ (wr.alloc (.cells #[.int .i64 (c.1 : Int), .int .i64 (c.2 : Int)] 69)).heap.size := by have := b2.size; rw [alloc_size]; omega
              have b9 := ((((b2.but ((ButAt.refl Q w5.heap.size wr).alloc b2.size (.cells #[.int .i64 (c.1 : Int), .int .i64 (c.2 : Int)] 69))).but (h6.mono hs5)).but (((ButAt.refl Q w5.heap.size w6).alloc (Nat.le_trans hs5 h6.size) (.cells #[.string ⟨q.ty.toArray⟩, .string ⟨q.bd.toArray⟩, .int .i64 (q.fr : Int), .int .i64 (q.to : Int), .int .i64 (q.ln : Int), .slice aq q.ps.length cq] 25)).alloc (by rw [alloc_size]; exact Nat.le_trans (Nat.le_trans hs5 h6.size) (Nat.le_succ _)) (.cells #[.string ⟨q.ty.toArray⟩, .string ⟨q.bd.toArray⟩, .int .i64 (q.fr : Int), .int .i64 (q.to : Int), .int .i64 (q.ln : Int), .slice aq q.ps.length cq] 25))).grown hg8 (by rw [alloc_size, alloc_size]; exact Nat.le_trans (Nat.le_trans hs5 h6.size) (Nat.le_trans (Nat.le_succ _) (Nat.le_succ _))) (fun k e => (o7.lt k e).1)).setU 5 (.slice (some ⟨g2, 0, none⟩) (items.length + 1) cap2)
              have own9 := ownsRow_setCell_below (a := ⟨w2.heap.size, 5, none⟩) own8 hU5 (.slice (some ⟨g2, 0, none⟩) (items.length + 1) cap2)
              have x9 := set_five x8 (.slice (some ⟨g2, 0, none⟩) (items.length + 1) cap2)
              have p9 := parsAt_set2 p8 ⟨w2.heap.size, 5, none⟩ (.slice (some ⟨g2, 0, none⟩) (items.length + 1) cap2) nQU
              have c85 := (six_cells x8).2.2.2.2.2
              have f8 := Lib.frozen_of_heap x8 5
              have HG := Lib.hid (And.intro hk9 (And.intro b9 (And.intro own9 (And.intro x9 p9))))
              clear hk9 b9 own9 x9 p9
              go_wp2_with fail
              go_roundg g'
              case measure => omega
              case rel =>
                have hlen : (items ++ [(q, Value.slice aq q.ps.length cq)]).length = items.length + 1 := by simp
                refine ⟨k + 1, n2, items ++ [(q, .slice aq q.ps.length cq)], _, by omega, by first | rfl | (congr 1), by have := HIL.out; omega, hn2, HG.out.2.2.2.1, HG.out.2.2.2.2, ?_, HG.out.2.1, ⟨HG.out.1, ?_⟩⟩
                · rw [hlen, ← cellsL_snoc]; exact HG.out.2.2.1
                · have := HS.out
                  simpa using this
        · have hK2 := HK.out.2
          rw [List.drop_eq_nil_of_le (by omega), partsF] at hK2
          have hR3 := HR2.out
          rw [← hK2] at hR3
          have HX : Hid (((some (.mk TY BN X te LN (items.map (·.1))), n') : Option PT × Nat) = R) := hR3
          have x0 := (six_cells hx).1
          have x1 := (six_cells hx).2.1
          have x2 := (six_cells hx).2.2.1
          have x3 := (six_cells hx).2.2.2.1
          have x4 := (six_cells hx).2.2.2.2.1
          have x5 := (six_cells hx).2.2.2.2.2
          have u0 := (six_cells zr).1
          have u1 := (six_cells zr).2.1
          have u2 := (six_cells zr).2.2.1
          have u3 := (six_cells zr).2.2.2.1
          have u4 := (six_cells zr).2.2.2.2.1
          have u5 := (six_cells zr).2.2.2.2.2
          have fz := Lib.frozen_of_heap zr
          have nQR : Q ≠ w.heap.size := Nat.ne_of_lt hQl
          have neU : w.heap.size ≠ w2.heap.size := Nat.ne_of_lt zl
          have HK2 := Lib.hid HK.out.1
          have HIL := Lib.hid hil
          clear hR3 hK2 HK hil
          go_wp2_with fail
          refine bodyPost_ret (results_row_tmp (P := Tryz.prog) rfl _ _ w.heap.size _ _ _ _ rfl (set_six zr _ _ _ _ _ _) Tryz.underlying25 rfl part_size) rfl ?_
          refine ⟨_, rfl, ?_, by rw [← HX.out]; exact six_pars p nQR _ _ _ _ _ _, six_but (b2.toBut y5 y5.size hUB) (Nat.le_refl _) _ _ _ _ _ _⟩
          rw [← HX.out]
          refine ⟨_, rfl, ?_⟩
          have hrd := reads_of_owns (ok := fun j => w5.heap.size ≤ j) hown (fun g h => (hown.lt g h).1) (fun x hx => reads_keep (HK2.out x hx) (Nat.le_refl _) (fun _ _ _ => rfl) (fun j h _ => h.1))
          refine reads_keep hrd (by rw [six_size]; exact Nat.le_refl _) (fun j hj _ => six_heap wr _ _ _ _ _ _ j ?_) (fun j hj _ => Nat.le_trans y5.size hj)
          have h1 := y5.size
          have hj2 : w5.heap.size ≤ j := hj
          omega
    · have hR := HR.out
      rw [if_neg hm] at hR
      have HX := Lib.hid hR
      clear HR hR IH
      cases hp : Lib.hasPrefix TY mpS
      · rw [hp] at cH
        clear hm hp
        go_enter Tryz.func13, Tryz.ntmps13
        go_wp2_with (first
          | (go_at_call 26; go_loud (with_reducible refine (cS _ (maxL_but hM hQG y)).mono ?_; rintro e w2 ⟨rfl, h⟩; have p := parsAt_below p h; have z := below_same h z; have y := y.next y.size h; have zl := (Array.getElem?_eq_some_iff.1 z).1))
          | (go_at_call 27; with_reducible refine (cN _ (maxL_but hM hQG y)).mono ?_; rintro e w9 ⟨rfl, hw⟩; rw [hw]; clear hw; have hx := World.heap_alloc_new w2 (.cells #[.string ⟨#[]⟩, .string ⟨#[]⟩, .int .i64 (X : Int), .int .i64 (te : Int), .int .i64 (LN : Int), .slice none 0 0] 25); have p := parsAt_alloc p (.cells #[.string ⟨#[]⟩, .string ⟨#[]⟩, .int .i64 (X : Int), .int .i64 (te : Int), .int .i64 (LN : Int), .slice none 0 0] 25); have z := alloc_at (o := .cells #[.string ⟨#[]⟩, .string ⟨#[]⟩, .int .i64 (X : Int), .int .i64 (te : Int), .int .i64 (LN : Int), .slice none 0 0] 25) z; have y := y.alloc y.size (.cells #[.string ⟨#[]⟩, .string ⟨#[]⟩, .int .i64 (X : Int), .int .i64 (te : Int), .int .i64 (LN : Int), .slice none 0 0] 25))
          | (go_at_call 28; with_reducible refine (cK _ (maxL_but hM hQG y)).mono ?_; rintro e w3 ⟨rfl, h⟩; have p := parsAt_below p h; have z := below_same h z; have hx := below_same h hx; have y := y.next y.size h; have x0 := (six_cells hx).1; have x1 := (six_cells hx).2.1; have x2 := (six_cells hx).2.2.1; have x3 := (six_cells hx).2.2.2.1; have x4 := (six_cells hx).2.2.2.2.1; have x5 := (six_cells hx).2.2.2.2.2; have fx0 := Lib.frozen_of_heap hx 0; have fx1 := Lib.frozen_of_heap hx 1; have u0 := (six_cells z).1; have u1 := (six_cells z).2.1; have u2 := (six_cells z).2.2.1; have u3 := (six_cells z).2.2.2.1; have u4 := (six_cells z).2.2.2.2.1; have u5 := (six_cells z).2.2.2.2.2; have fz := Lib.frozen_of_heap z)
          | (go_at_call 29; with_reducible refine (cH _).mono ?_; rintro e w10 ⟨rfl, hw⟩; rw [hw]; clear hw; have hx4 := set_zero_one hx (.string ⟨TY.toArray⟩) (.string ⟨BN.toArray⟩); have hx5 := set_one hx4 (.string ⟨#[]⟩); have k1 := (six_cells hx5).2.1))
        have neU : w.heap.size ≠ w2.heap.size := Nat.ne_of_lt zl
        have nQU : Q ≠ w2.heap.size := by have := y.size; omega
        have nQR : Q ≠ w.heap.size := Nat.ne_of_lt hQl
        have hUB : w.heap.size ≤ w2.heap.size := Nat.le_of_lt zl
        refine bodyPost_ret (results_row_tmp (P := Tryz.prog) rfl _ _ w.heap.size _ _ _ _ rfl (set_six (set_at (set_at (set_at z neU) neU) neU) _ _ _ _ _ _) Tryz.underlying25 rfl part_size) rfl ?_
        refine ⟨_, rfl, by rw [← HX.out]; exact ⟨_, rfl, .empty⟩, ?_, six_but (((y.setCell (p := ⟨w2.heap.size, 0, none⟩) hUB _).setCell (p := ⟨w2.heap.size, 1, none⟩) hUB _).setCell (p := ⟨w2.heap.size, 1, none⟩) hUB _) (Nat.le_refl _) _ _ _ _ _ _⟩
        rw [← HX.out]
        exact six_pars (parsAt_set2 (parsAt_set2 (parsAt_set2 p _ _ nQU) _ _ nQU) _ _ nQU) nQR _ _ _ _ _ _
      · rw [hp] at cH
        have hbe : BN = [] := by
          cases BN with
          | nil => rfl
          | cons c r => exfalso; apply hm; unfold multi; rw [hp]; rfl
        have hemp : (⟨BN.toArray⟩ : ByteArray).toList.isEmpty = true := by rw [Lib.toList_data, hbe]; rfl
        have hemp2 : BN.isEmpty = true := by rw [hbe]; rfl
        clear hm hp hbe
        go_enter Tryz.func13, Tryz.ntmps13
        go_wp2_with (first
          | (go_at_call 26; go_loud (with_reducible refine (cS _ (maxL_but hM hQG y)).mono ?_; rintro e w2 ⟨rfl, h⟩; have p := parsAt_below p h; have z := below_same h z; have y := y.next y.size h; have zl := (Array.getElem?_eq_some_iff.1 z).1))
          | (go_at_call 27; with_reducible refine (cN _ (maxL_but hM hQG y)).mono ?_; rintro e w9 ⟨rfl, hw⟩; rw [hw]; clear hw; have hx := World.heap_alloc_new w2 (.cells #[.string ⟨#[]⟩, .string ⟨#[]⟩, .int .i64 (X : Int), .int .i64 (te : Int), .int .i64 (LN : Int), .slice none 0 0] 25); have p := parsAt_alloc p (.cells #[.string ⟨#[]⟩, .string ⟨#[]⟩, .int .i64 (X : Int), .int .i64 (te : Int), .int .i64 (LN : Int), .slice none 0 0] 25); have z := alloc_at (o := .cells #[.string ⟨#[]⟩, .string ⟨#[]⟩, .int .i64 (X : Int), .int .i64 (te : Int), .int .i64 (LN : Int), .slice none 0 0] 25) z; have y := y.alloc y.size (.cells #[.string ⟨#[]⟩, .string ⟨#[]⟩, .int .i64 (X : Int), .int .i64 (te : Int), .int .i64 (LN : Int), .slice none 0 0] 25))
          | (go_at_call 28; with_reducible refine (cK _ (maxL_but hM hQG y)).mono ?_; rintro e w3 ⟨rfl, h⟩; have p := parsAt_below p h; have z := below_same h z; have hx := below_same h hx; have y := y.next y.size h; have x0 := (six_cells hx).1; have x1 := (six_cells hx).2.1; have x2 := (six_cells hx).2.2.1; have x3 := (six_cells hx).2.2.2.1; have x4 := (six_cells hx).2.2.2.2.1; have x5 := (six_cells hx).2.2.2.2.2; have fx0 := Lib.frozen_of_heap hx 0; have fx1 := Lib.frozen_of_heap hx 1; have u0 := (six_cells z).1; have u1 := (six_cells z).2.1; have u2 := (six_cells z).2.2.1; have u3 := (six_cells z).2.2.2.1; have u4 := (six_cells z).2.2.2.2.1; have u5 := (six_cells z).2.2.2.2.2; have fz := Lib.frozen_of_heap z)
          | (go_at_call 29; with_reducible refine (cH _).mono ?_; rintro e w10 ⟨rfl, hw⟩; rw [hw]; clear hw; have hx4 := set_zero_one hx (.string ⟨TY.toArray⟩) (.string ⟨BN.toArray⟩); have hx5 := set_one hx4 (.string ⟨#[]⟩); have k1 := (six_cells hx5).2.1))
        have neU : w.heap.size ≠ w2.heap.size := Nat.ne_of_lt zl
        have nQU : Q ≠ w2.heap.size := by have := y.size; omega
        have nQR : Q ≠ w.heap.size := Nat.ne_of_lt hQl
        have hUB : w.heap.size ≤ w2.heap.size := Nat.le_of_lt zl
        refine bodyPost_ret (results_row_tmp (P := Tryz.prog) rfl _ _ w.heap.size _ _ _ _ rfl (set_six (set_at (set_at (set_at z neU) neU) neU) _ _ _ _ _ _) Tryz.underlying25 rfl part_size) rfl ?_
        refine ⟨_, rfl, by rw [← HX.out]; exact ⟨_, rfl, .empty⟩, ?_, six_but (((y.setCell (p := ⟨w2.heap.size, 0, none⟩) hUB _).setCell (p := ⟨w2.heap.size, 1, none⟩) hUB _).setCell (p := ⟨w2.heap.size, 1, none⟩) hUB _) (Nat.le_refl _) _ _ _ _ _ _⟩
        rw [← HX.out]
        exact six_pars (parsAt_set2 (parsAt_set2 (parsAt_set2 p _ _ nQU) _ _ nQU) _ _ nQU) nQR _ _ _ _ _ _
end Go.Proofs.YtmjfhhladicacaaGreatDoor
