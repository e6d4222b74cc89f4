/- Rows of letters by their cells; the walk over slices.Clone at letters. Condition: none. -/
import Derived.Test.YtdlfbhbgemoelaaGreatDoorBoxE
import Derived.Test.YtdlfbhbgemoelaaGreatDoorKept
import Derived.Lib.SliceRun
namespace Go.Proofs.YtdlfbhbgemoelaaGreatDoor
open Go.RowKit Go.Shelf Go.Sort

/-- a letter's four cells -/
def cells1 (z : Let × Value) : List Value := [.int .i64 z.1.uid, z.2, .int .i64 z.1.day, .string ⟨z.1.text.toArray⟩]
def cellsL : List (Let × Value) → List Value
  | [] => []
  | z :: r => cells1 z ++ cellsL r
theorem cellsL_len : ∀ zs : List (Let × Value), (cellsL zs).length = zs.length * 4
  | [] => rfl
  | z :: r => by show (cells1 z ++ cellsL r).length = _; rw [List.length_append, cellsL_len r]; show 4 + r.length * 4 = (r.length + 1) * 4; omega
theorem cellsL_app : ∀ (a b : List (Let × Value)), cellsL (a ++ b) = cellsL a ++ cellsL b
  | [], b => rfl
  | z :: r, b => by show cells1 z ++ cellsL (r ++ b) = cells1 z ++ cellsL r ++ cellsL b; rw [cellsL_app r b, List.append_assoc]
theorem cellsL_get : ∀ (zs : List (Let × Value)) (j i : Nat), i < 4 → (cellsL zs)[j * 4 + i]? = (zs[j]?).bind fun z => (cells1 z)[i]?
  | [], j, i, _ => by simp [cellsL]
  | z :: r, 0, i, hi => by
    show (cells1 z ++ cellsL r)[0 * 4 + i]? = _
    rw [Nat.zero_mul, Nat.zero_add, List.getElem?_append_left (by show i < 4; exact hi)]
    rfl
  | z :: r, j + 1, i, hi => by
    show (cells1 z ++ cellsL r)[(j + 1) * 4 + i]? = _
    rw [List.getElem?_append_right (by show 4 ≤ _; omega)]
    show (cellsL r)[(j + 1) * 4 + i - 4]? = _
    rw [show (j + 1) * 4 + i - 4 = j * 4 + i by omega, cellsL_get r j i hi]
    rfl
/-- a row of letters, with its flags' values told -/
def ZRow (w : World) (v : Value) (zs : List (Let × Value)) : Prop := ∃ ao cap, v = .slice ao zs.length cap ∧ zs.length ≤ cap ∧ (cap ≤ 9223372036854775807 ∧ (ao = none → cap = 0)) ∧ (∀ z ∈ zs, SRow w z.2 z.1.flags) ∧ ∀ (j : Nat) (u : Value), (cellsL zs)[j]? = some u → ∃ b off, ao = some ⟨b, off, none⟩ ∧ b < w.heap.size ∧ w.cell? ⟨b, off + j, none⟩ = some u
theorem zrow_of {w : World} {v : Value} {l : List Let} (h : LRow w v l) : ∃ zs : List (Let × Value), zs.map (·.1) = l ∧ ZRow w v zs := by
  obtain ⟨ao, cap, rfl, h2, h3, h4⟩ := h
  have hc : ∀ j : Fin l.length, ∃ fv : Value, SRow w fv (l[j]).flags ∧ ∀ (i : Nat) (u : Value), i < 4 → (cells1 (l[j], fv))[i]? = some u → ∃ b off, ao = some ⟨b, off, none⟩ ∧ b < w.heap.size ∧ w.cell? ⟨b, off + (j.1 * 4 + i), none⟩ = some u := fun j => by
    obtain ⟨b, off, fv, e1, e2, e3, c0, c1, c2, c3⟩ := h4 j.1 l[j] (List.getElem?_eq_getElem j.2)
    refine ⟨fv, e3, fun i u hi hu => ⟨b, off, e1, e2, ?_⟩⟩
    rw [← Nat.add_assoc]
    match i, hi with
    | 0, _ => cases hu; exact c0
    | 1, _ => cases hu; exact c1
    | 2, _ => cases hu; exact c2
    | 3, _ => cases hu; exact c3
  obtain ⟨f, hf⟩ := Classical.axiomOfChoice hc
  have hlen : (List.ofFn fun j : Fin l.length => (l[j], f j)).length = l.length := by simp
  have hget : ∀ j (hj : j < l.length), (List.ofFn fun j : Fin l.length => (l[j], f j))[j]? = some (l[j], f ⟨j, hj⟩) := fun j hj => by simp [hj]
  refine ⟨List.ofFn fun j : Fin l.length => (l[j], f j), ?_, ao, cap, by rw [hlen], by rw [hlen]; exact h2, h3, fun z hz => ?_, fun k u hu => ?_⟩
  · apply List.ext_getElem (by simp)
    intro j h1 h2
    simp
  · obtain ⟨j, hj⟩ := List.getElem?_of_mem hz
    have hjl : j < l.length := by rw [← hlen]; exact (List.getElem?_eq_some_iff.1 hj).1
    rw [hget j hjl] at hj
    cases hj
    exact (hf ⟨j, hjl⟩).1
  · have hk : k / 4 * 4 + k % 4 = k := by omega
    rw [← hk, cellsL_get _ _ _ (by omega)] at hu
    obtain ⟨z, hz, hu⟩ := Option.bind_eq_some_iff.1 hu
    have hjl : k / 4 < l.length := by rw [← hlen]; exact (List.getElem?_eq_some_iff.1 hz).1
    rw [hget _ hjl] at hz
    cases hz
    have := (hf ⟨k / 4, hjl⟩).2 (k % 4) u (by omega) hu
    simp only [hk] at this
    exact this
theorem lrow_of {w : World} {v : Value} {zs : List (Let × Value)} (h : ZRow w v zs) : LRow w v (zs.map (·.1)) := by
  obtain ⟨ao, cap, rfl, h2, h3, h4, h5⟩ := h
  refine ⟨ao, cap, by rw [List.length_map], by rw [List.length_map]; exact h2, h3, fun j x hj => ?_⟩
  rw [List.getElem?_map] at hj
  obtain ⟨z, hz, rfl⟩ := Option.map_eq_some_iff.1 hj
  have hc : ∀ i, i < 4 → (cellsL zs)[j * 4 + i]? = (cells1 z)[i]? := fun i hi => by rw [cellsL_get _ _ _ hi, hz]; rfl
  obtain ⟨b, off, e1, e2, c0⟩ := h5 (j * 4 + 0) _ (hc 0 (by omega))
  subst e1
  have hc2 : ∀ i u, i < 4 → (cells1 z)[i]? = some u → w.cell? ⟨b, off + (j * 4 + i), none⟩ = some u := fun i u hi hu => by
    obtain ⟨b', off', e1, _, c⟩ := h5 (j * 4 + i) u ((hc i hi).trans hu)
    cases e1
    exact c
  exact ⟨b, off, z.2, rfl, e2, h4 z (List.mem_of_getElem? hz), c0, hc2 1 _ (by omega) rfl, hc2 2 _ (by omega) rfl, hc2 3 _ (by omega) rfl⟩
theorem zrow_owns {w : World} {B : Nat} {v : Value} {zs : List (Let × Value)} (h : w.ownsRow B 76 4 v zs.length (cellsL zs)) (hs : ∀ z ∈ zs, SRow w z.2 z.1.flags) : ZRow w v zs := by
  rcases h.2 with ⟨rfl, h0⟩ | ⟨g, cap, cur, rfl, hg, hh, h3, h4, h5, h6⟩
  · obtain rfl : zs = [] := List.eq_nil_of_length_eq_zero h0
    exact ⟨none, 0, rfl, Nat.le_refl _, ⟨by decide, fun _ => rfl⟩, hs, fun j u hj => by simp [cellsL] at hj⟩
  · refine ⟨some ⟨g, 0, none⟩, cap, rfl, h3, ⟨by unfold maxLen at h4; omega, fun h => by cases h⟩, hs, fun j u hj => ⟨g, 0, rfl, (Array.getElem?_eq_some_iff.1 hh).1, ?_⟩⟩
    rw [Nat.zero_add, Lib.cell_of_heap hh]
    rw [← h6] at hj
    rw [List.getElem?_take] at hj
    split at hj
    · simpa using hj
    · cases hj
theorem ZRow.below {w w' : World} {v : Value} {zs : List (Let × Value)} (h : ZRow w v zs) (hb : Below w.heap.size w w') : ZRow w' v zs := by
  obtain ⟨ao, cap, h1, h2, h3, h4, h5⟩ := h
  refine ⟨ao, cap, h1, h2, h3, fun z hz => (h4 z hz).below hb, fun j u hj => ?_⟩
  obtain ⟨b, off, e1, e2, c⟩ := h5 j u hj
  exact ⟨b, off, e1, Nat.lt_of_lt_of_le e2 hb.size, (hb.cell e2).trans c⟩
theorem cellsL_one {zs : List (Let × Value)} (hs : ∀ z ∈ zs, ∃ w : World, SRow w z.2 z.1.flags) : ∀ u ∈ cellsL zs, u.oneCell' = true := by
  induction zs with
  | nil => intro u hu; cases hu
  | cons z r ih =>
    intro u hu
    rcases List.mem_append.1 (show u ∈ cells1 z ++ cellsL r from hu) with h | h
    · obtain ⟨w, ao, cap, e, _⟩ := hs z (List.mem_cons_self ..)
      simp only [cells1, List.mem_cons, List.not_mem_nil, or_false] at h
      rcases h with rfl | rfl | rfl | rfl
      · rfl
      · rw [e]; rfl
      · rfl
      · rfl
    · exact ih (fun z hz => hs z (List.mem_cons_of_mem _ hz)) u h
/-- a block of strings, or of letters -/
def Lettered (w : World) (b : Nat) : Prop := ∃ cur T fz, w.heap[b]? = some (.cells cur T fz) ∧ (T = 9 ∨ T = 76)
/-- a block that nothing writes: from before N, or of strings or letters -/
def Safe (N : Nat) (w : World) (b : Nat) : Prop := b < w.heap.size ∧ (b < N ∨ Lettered w b)
def SafeV (N : Nat) (w : World) (v : Value) : Prop := ∀ a n c, v = .slice (some a) n c → Safe N w a.block
theorem safe_tag {N : Nat} {w : World} {v : Value} (h : STag w v) : SafeV N w v := fun a n c e => by
  obtain ⟨cur, fz, hh⟩ := h a n c e
  exact ⟨(Array.getElem?_eq_some_iff.1 hh).1, Or.inr ⟨cur, _, fz, hh, Or.inl rfl⟩⟩
theorem safe_owns {N : Nat} {w : World} {B n : Nat} {v : Value} {xs : List Value} (h : w.ownsRow B 76 4 v n xs) : SafeV N w v := fun a n' c e => by
  rcases h.2 with ⟨rfl, _⟩ | ⟨g, cap, cur, rfl, _, hh, _⟩
  · cases e
  · cases e; exact ⟨(Array.getElem?_eq_some_iff.1 hh).1, Or.inr ⟨cur, _, _, hh, Or.inr rfl⟩⟩
/-- what writes leaves what is safe -/
def Spares (N : Nat) (w : World) (S : Nat → Prop) : Prop := ∀ k, k < w.heap.size → S k → N ≤ k ∧ ¬ Lettered w k
theorem Safe.out {N : Nat} {w : World} {S : Nat → Prop} {b : Nat} (h : Safe N w b) (hs : Spares N w S) : ¬ S b := fun e => by
  obtain ⟨h1, h2⟩ := hs b h.1 e
  rcases h.2 with h3 | h3
  · omega
  · exact h2 h3
theorem Safe.kept {N : Nat} {w w' : World} {S : Nat → Prop} {b : Nat} (h : Safe N w b) (hk : Kept S w w') (hs : Spares N w S) : Safe N w' b := ⟨Nat.lt_of_lt_of_le h.1 hk.size, h.2.imp id fun ⟨cur, T, fz, hh, hT⟩ => ⟨cur, T, fz, hk.obj hh (h.out hs), hT⟩⟩
theorem SafeV.kept {N : Nat} {w w' : World} {S : Nat → Prop} {v : Value} (h : SafeV N w v) (hk : Kept S w w') (hs : Spares N w S) : SafeV N w' v := fun a n c e => (h a n c e).kept hk hs
theorem kept_cell {N : Nat} {w w' : World} {S : Nat → Prop} (hk : Kept S w w') (hs : Spares N w S) {b : Nat} (h : Safe N w b) (i : Nat) : w'.cell? ⟨b, i, none⟩ = w.cell? ⟨b, i, none⟩ := World.cell?_of_block (hk.block b h.1 (h.out hs))
theorem SRow.kept {N : Nat} {w w' : World} {S : Nat → Prop} {v : Value} {l : List (List UInt8)} (h : SRow w v l) (h2 : SafeV N w v) (hk : Kept S w w') (hs : Spares N w S) : SRow w' v l := by
  obtain ⟨ao, cap, rfl, e2, e3, e4⟩ := h
  refine ⟨ao, cap, rfl, e2, e3, fun j t hj => ?_⟩
  obtain ⟨b, off, rfl, c1, c2⟩ := e4 j t hj
  exact ⟨b, off, rfl, Nat.lt_of_lt_of_le c1 hk.size, (kept_cell hk hs (h2 _ _ _ rfl) _).trans c2⟩
theorem ZRow.kept {N : Nat} {w w' : World} {S : Nat → Prop} {v : Value} {zs : List (Let × Value)} (h : ZRow w v zs) (h2 : SafeV N w v) (h3 : ∀ z ∈ zs, SafeV N w z.2) (hk : Kept S w w') (hs : Spares N w S) : ZRow w' v zs := by
  obtain ⟨ao, cap, rfl, e2, e3, e4, e5⟩ := h
  refine ⟨ao, cap, rfl, e2, e3, fun z hz => (e4 z hz).kept (h3 z hz) hk hs, fun j t hj => ?_⟩
  obtain ⟨b, off, rfl, c1, c2⟩ := e5 j t hj
  exact ⟨b, off, rfl, Nat.lt_of_lt_of_le c1 hk.size, (kept_cell hk hs (h2 _ _ _ rfl) _).trans c2⟩
/-- a row of letters that nothing writes -/
def XRow (N : Nat) (w : World) (v : Value) (zs : List (Let × Value)) : Prop := ZRow w v zs ∧ SafeV N w v ∧ ∀ z ∈ zs, SafeV N w z.2
theorem XRow.kept {N : Nat} {w w' : World} {S : Nat → Prop} {v : Value} {zs : List (Let × Value)} (h : XRow N w v zs) (hk : Kept S w w') (hs : Spares N w S) : XRow N w' v zs := ⟨h.1.kept h.2.1 h.2.2 hk hs, h.2.1.kept hk hs, fun z hz => (h.2.2 z hz).kept hk hs⟩
theorem spares_none (N : Nat) (w : World) : Spares N w (fun _ => False) := fun _ _ h => h.elim
theorem XRow.below {N : Nat} {w w' : World} {v : Value} {zs : List (Let × Value)} (h : XRow N w v zs) (hb : Below w.heap.size w w') : XRow N w' v zs := h.kept (kept_below hb) (spares_none N w)
theorem SafeV.below {N : Nat} {w w' : World} {v : Value} (h : SafeV N w v) (hb : Below w.heap.size w w') : SafeV N w' v := h.kept (kept_below hb) (spares_none N w)
/-- a box lies in a block, and nothing writes its letters -/
def BoxS (N : Nat) (w : World) (B : Nat) (b : BoxP) : Prop := ∃ lv zs, w.heap[B]? = some (.cells #[.int .i64 b.valid, .int .i64 b.next, lv] 48 (0, 0)) ∧ zs.map (·.1) = b.ls ∧ XRow N w lv zs
theorem BoxS.at {N : Nat} {w : World} {B : Nat} {b : BoxP} (h : BoxS N w B b) : BoxAt w B b := by
  obtain ⟨lv, zs, h1, h2, h3, _⟩ := h
  exact ⟨lv, h1, h2 ▸ lrow_of h3⟩
theorem not_lettered {w : World} {k : Nat} {c : Array Value} {T : TypeId} {fz : Nat × Nat} (h : w.heap[k]? = some (.cells c T fz)) (h1 : T ≠ 9) (h2 : T ≠ 76) : ¬ Lettered w k := fun ⟨c', T', fz', hh, hT⟩ => by
  rw [h] at hh
  cases hh
  exact hT.elim h1 h2
theorem spares_box {N : Nat} {w : World} {B : Nat} {b : BoxP} (h : BoxAt w B b) (hN : N ≤ B) : Spares N w (fun k => k = B) := fun k _ e => by
  subst e
  obtain ⟨lv, hB, _⟩ := h
  exact ⟨hN, not_lettered hB (by decide) (by decide)⟩
theorem BoxS.kept {N : Nat} {w w' : World} {B : Nat} {b : BoxP} {S : Nat → Prop} (h : BoxS N w B b) (hk : Kept S w w') (hs : Spares N w S) (hB : ¬ S B) : BoxS N w' B b := by
  obtain ⟨lv, zs, h1, h2, h3⟩ := h
  exact ⟨lv, zs, hk.obj h1 hB, h2, h3.kept hk hs⟩
theorem BoxS.below {N : Nat} {w w' : World} {B : Nat} {b : BoxP} (h : BoxS N w B b) (hb : Below w.heap.size w w') : BoxS N w' B b := h.kept (S := fun _ => False) (kept_below hb) (spares_none N w) id
theorem let_info : (Tryz.prog.info? 76).map (fun i => (i.zero, i.size, i.bytes)) = some (some (.agg #[.int .i64 0, .slice none 0 0, .int .i64 0, .string ByteArray.empty]), 4, 56) := by kernel_rfl

set_option maxRecDepth 100000 in
set_option maxHeartbeats 2000000 in
theorem cloneL_any (v : Value) (zs : List (Let × Value)) (w : World) (hv : ZRow w v zs) (hl : zs.length ≤ 1000000) :
    Calls Tryz.prog 35 #[v] w fun e w' => ∃ v', e = .returned v' ∧ w'.ownsRow w.heap.size 76 4 v' zs.length (cellsL zs) ∧ Below w.heap.size w w' := by
  obtain ⟨ao, cap, rfl, hcap, ⟨hcm, hnone⟩, hf, hcell⟩ := hv
  obtain ⟨i0, hi, hz0, hz1, hz2⟩ := info_parts let_info
  have qE : ∀ (w : World) (a : Option Addr) (n c n' c' : Nat), (binOp .eql 46 (.slice a n c) (.slice none n' c')).run Tryz.prog w = .ok (.bool a.isNone) w := fun w a n c n' c' => Lib.run_eql_slice_nil w _ _ a n c n' c' Tryz.underlying46
  cases ao with
  | none =>
    have h0 : zs.length = 0 := by have := hnone rfl; omega
    obtain rfl : zs = [] := List.eq_nil_of_length_eq_zero h0
    clear hcell hf
    go_enter Tryz.func35, Tryz.ntmps35
    go_wp2_with fail
    go_ret
    exact ⟨_, rfl, World.ownsRow_nil _ _ _ _, Below.refl _ _⟩
  | some p =>
    have H1 := Lib.hid (cellsL_one (fun z hz => ⟨w, hf z hz⟩))
    have HL := Lib.hid (cellsL_len zs)
    have HC : Hid (∀ j u, (cellsL zs)[j]? = some u → (w.alloc (.cells #[] 76)).cell? (p.add j) = some u) := fun j u hj => by
      obtain ⟨b, off, e1, e2, c⟩ := hcell j u hj
      cases e1
      rw [add_pl]
      exact (((Below.refl w.heap.size w).alloc (Nat.le_refl _) _).cell e2).trans c
    clear hcell hf
    go_enter Tryz.func35, Tryz.ntmps35
    go_wp2_with (at_builtin; go_must (refine wpList_append_own _ rfl _ _ 46 rfl w.heap.size 76 i0 _ 4 56 Tryz.underlying46 hi hz0 hz1 hz2 rfl (by decide) _ _ _ rfl (World.ownsRow_made w #[] 0 (Nat.le_refl _) (Nat.zero_le _) rfl) p zs.length cap (cellsL zs) rfl HL.out HC.out H1.out ?c4 ?c5 ?c6 ?_))
    case c4 => unfold maxLen; omega
    case c5 => omega
    case c6 => simp
    intro v' w1 hown hgrow _
    go_wp2_with fail
    go_ret
    exact ⟨v', rfl, by simpa using hown, ((Below.refl _ w).alloc (Nat.le_refl _) _).grown hgrow (by simp) (by intro k hk; simp [Value.ownBlock] at hk; omega)⟩
end Go.Proofs.YtdlfbhbgemoelaaGreatDoor
