/- The walk over SearchNumbers' closure that reads words and asks whether a letter is what they look for. Conditions: flags.system, strconv's table of powers and its two errors, bytealg.MaxLen and the handle of error lie as the program's text lays them. The walk over letterboxkeep.SearchNumbers: it returns true, whatever it is given. Conditions: flags.system, strconv's table of powers and its two errors, bytealg.MaxLen and the handle of error lie as the program's text lays them. -/
import Derived.Test.YtgblgbhfgiajiaaGreatDoorSrchS
import Derived.OwnWalk
import Derived.Test.YtgblgbhfgiajiaaGreatDoorSeqD
import Derived.Test.YtgblgbhfgiajiaaGreatDoorPickK
import Derived.Test.YtgblgbhfgiajiaaGreatDoorTexts
import Derived.Deep.RegionHeld3
import Derived.Deep.DeepCutAuto
namespace Go.Proofs.YtgblgbhfgiajiaaGreatDoor
open Go.RowKit Go.Shelf Go.Sort
set_option linter.unusedSimpArgs false

section
variable {P : Program} {ops : Array Oper} {rest : List Oper} {o : Oper} {a : Act} {Q : Exit → Act → World → Prop}
/-- append(v, x), v owned, x of three cells in a new block -/
theorem wpList_app3 (hgd : o.guard = none) (s x : Operand) (t : TypeId) (ho : o.op = .call { callee := .builtin .append, args := #[s, x], argTypes := #[t, t] })
    (e : TypeId) {z : Value} {bytes : Nat} (ht : P.underlying t = some (.slice e)) (hinfo : (P.info? e).map (fun i => (i.zero, i.size, i.bytes)) = some (some z, 3, bytes)) (hzs : z.cells.size = 3)
    (base : Nat) (v : Value) (n : Nat) (xs : List Value) (w : World) (hs : a.eval s = v) (hown : w.ownsRow base e 3 v n xs)
    (y0 y1 y2 : Value) (hx : a.eval x = .slice (some ⟨w.heap.size, 0, none⟩) 1 1) (h0 : y0.oneCell' = true) (h1 : y1.oneCell' = true) (h2 : y2.oneCell' = true)
    (hn : n + 1 ≤ 4294967296) (hb : bytes ≤ 200) (hbase : base ≤ w.heap.size)
    (h : ∀ v' w', w'.ownsRow base e 3 v' (n + 1) (xs ++ [y0, y1, y2]) → (w.alloc (.cells #[y0, y1, y2] e)).grownBy w' v.ownBlock → wpList P ops Q rest (a.put o.dst v') w') : wpList P ops Q (o :: rest) a (w.alloc (.cells #[y0, y1, y2] e)) := by
  obtain ⟨i0, hi, hz0, hz1, hz2⟩ := info_parts hinfo
  refine wpList_append_own_at _ hgd s x t ho base e i0 z 3 bytes ht hi hz0 hz1 hz2 hzs (by decide) v n xs hs (hown.alloc _) ⟨w.heap.size, 0, none⟩ 1 1 [y0, y1, y2] hx rfl ?_ ?_ ?_ ?_ ?_ ?_
  · intro j u hj
    match j, hj with
    | 0, hj => simp at hj; subst hj; simp [Addr.add]
    | 1, hj => simp at hj; subst hj; simp [Addr.add]
    | 2, hj => simp at hj; subst hj; simp [Addr.add]
  · intro u hu; simp at hu; rcases hu with rfl | rfl | rfl <;> assumption
  · unfold maxLen; omega
  · have : (n + 1) * bytes ≤ 4294967296 * 200 := Nat.mul_le_mul hn hb
    omega
  · simp; omega
  · intro v' w' k1 k2 _ k4
    exact h v' w' k1 k2
end
theorem argN_info : (Tryz.prog.info? 35).map (fun i => (i.zero, i.size, i.bytes)) = some (some (.agg #[.int .i64 0, .string ByteArray.empty, .slice none 0 0]), 3, 48) := by kernel_rfl
theorem wdCells_len : ∀ l : List (Wd × Value), (wdCells l).length = l.length * 3
  | [] => rfl
  | x :: l => by
    have := wdCells_len l
    have e : wdCells (x :: l) = [.int .i64 x.1.kind, .string ⟨x.1.text.toArray⟩, x.2] ++ wdCells l := rfl
    rw [e, List.length_append, this]
    simp only [List.length_cons, List.length_nil]
    omega
/-- an owned row of words that have no words of their own -/
def rowsN (ts : List (List UInt8)) : List (Wd × Value) := ts.map fun t => (atomW t, .slice none 0 0)
theorem rowsN_words (ts : List (List UInt8)) : (rowsN ts).map (·.1) = ts.map atomW := by simp [rowsN]
theorem readsK_own {W : World} {B n : Nat} {ov : Value} {ts : List (List UInt8)} (h : W.ownsRow B 35 3 ov n (wdCells (rowsN ts))) (hn : n = (rowsN ts).length) (ht : ∀ t ∈ ts, t.length ≤ 2000000) : ReadsK W W.heap.size ov ((rowsN ts).map (·.1)) := by
  subst hn
  have h0 := h
  rcases h.2 with ⟨rfl, e0⟩ | ⟨g, cap, cur, rfl, hg, hh, h3, h4, h5, h6'⟩
  · have : rowsN ts = [] := List.eq_nil_of_length_eq_zero e0
    rw [this]
    exact readsK_nil _ _
  · have hm : (rowsN ts).length = ((rowsN ts).map (·.1)).length := (List.length_map _).symm
    have key : ReadsK W W.heap.size (.slice (some ⟨g, 0, none⟩) ((rowsN ts).map (·.1)).length cap) ((rowsN ts).map (·.1)) := by
      refine .mk _ _ _ (fun _ => .slice none 0 0) (by rw [← hm]; exact h3) (by unfold maxLen at h4; omega) (fun j t hj => ?_) (fun j t hj => ?_) (fun j t hj => ?_)
      · rw [List.getElem?_map] at hj
        obtain ⟨x, hx, rfl⟩ := Option.map_eq_some_iff.1 hj
        obtain ⟨c0, c1, c2⟩ := wdCells_at (rowsN ts) j x hx
        have hjl := (List.getElem?_eq_some_iff.1 hx).1
        have hv : x.2 = .slice none 0 0 := by
          unfold rowsN at hx
          rw [List.getElem?_map] at hx
          obtain ⟨t, _, rfl⟩ := Option.map_eq_some_iff.1 hx
          rfl
        have hcl : ∀ (i : Nat) (u : Value), i < 3 → (wdCells (rowsN ts))[j * 3 + i]? = some u → W.cell? ⟨g, 0 + j * 3 + i, none⟩ = some u := fun i u hi hu => by
          have := h0.cellAt (j * 3 + i) (by omega)
          rw [hu] at this
          rw [Nat.zero_add]
          exact this
        rw [hv] at c2
        exact ⟨g, 0, rfl, (Array.getElem?_eq_some_iff.1 hh).1, hcl 0 _ (by decide) c0, hcl 1 _ (by decide) c1, hcl 2 _ (by decide) c2⟩
      · rw [rowsN_words, List.getElem?_map] at hj
        obtain ⟨x, hx, rfl⟩ := Option.map_eq_some_iff.1 hj
        exact ht x (List.mem_of_getElem? hx)
      · rw [rowsN_words, List.getElem?_map] at hj
        obtain ⟨x, hx, rfl⟩ := Option.map_eq_some_iff.1 hj
        exact readsK_nil _ _
    rw [← hm] at key
    exact key
/-- the letter, where it stands and in what, as the closure finds them -/
structure NearW (x : LetK) (fv : Value) (L N M G : Nat) (W : World) : Prop where
  l : W.heap[L]? = some (.cells #[.int .i64 x.uid, fv, .int .i64 x.day, .string ⟨x.text.toArray⟩] 25 (0, 0))
  n : W.heap[N]? = some (.cells #[.int .i64 x.which] 3 (0, 0))
  m : W.heap[M]? = some (.cells #[.int .i64 x.many] 3 (0, 0))
  g : W.heap[G]? = some (.cells #[.int .i64 x.greatest] 3 (0, 0))
  f : SRow W fv x.flags
  s : SrG W
theorem NearW.below {x : LetK} {fv : Value} {L N M G : Nat} {W W' : World} (h : NearW x fv L N M G W) (hb : Below W.heap.size W W') : NearW x fv L N M G W' :=
  ⟨below_same hb h.l, below_same hb h.n, below_same hb h.m, below_same hb h.g, h.f.below hb, h.s.below hb⟩
set_option maxRecDepth 100000 in
set_option maxHeartbeats 8000000 in
theorem hearN_any (x : LetK) (fv : Value) (hl : x.flags.length ≤ 1000000) (hx : x.text.length ≤ 9000) (v : Value) (ts : List (List UInt8)) (L N M G : Nat) (W : World) (h : NearW x fv L N M G W) (hv : SRow W v ts) (hts : ts.length ≤ 1000) (htt : ∀ t ∈ ts, t.length ≤ 2000000) :
    Calls Tryz.prog 8 #[v, .pointer (some ⟨L, 0, none⟩), .pointer (some ⟨N, 0, none⟩), .pointer (some ⟨M, 0, none⟩), .pointer (some ⟨G, 0, none⟩)] W fun e w' => e = .returned (.bool (hearP x (ts.map atomW))) ∧ Below W.heap.size W w' := by
  obtain ⟨ao, cap, rfl, hcap, ⟨hcm, -⟩, hcell⟩ := hv
  have HC := Lib.hid hcell
  have HT := Lib.hid htt
  have HW := Lib.hid (fun W' (hb : Below W.heap.size W W') => h.below hb)
  unfold hearP
  cases hp : parseK (ts.map atomW) with
  | error E =>
    have HP := Lib.hid hp
    dsimp only
    clear h htt hcell hp hl hx
    go_enter Tryz.func8, Tryz.ntmps8
    go_wp2_with fail
    go_loopg [7, 14] ts.length (fun g s7 s14 wr => ∃ (k : Nat) (ov : Value), k + g = ts.length ∧ s14 = .int .i64 (k : Int) ∧ ov = s7 ∧ wr.ownsRow W.heap.size 35 3 ov k (wdCells (rowsN (ts.take k))) ∧ Below W.heap.size W wr)
    case atStart => exact ⟨0, _, by omega, rfl, rfl, World.ownsRow_nil _ _ _ _, Below.refl _ _⟩
    case round =>
      obtain ⟨k, ov, hk, rfl, rfl, hown, hbr⟩ := hrel
      by_cases hlt : k < ts.length
      · obtain ⟨g', rfl⟩ : ∃ g', gk = g' + 1 := ⟨gk - 1, by omega⟩
        obtain ⟨t, ht⟩ : ∃ t, ts[k]? = some t := ⟨ts[k], List.getElem?_eq_getElem hlt⟩
        have HTK : Hid (wdCells (rowsN (ts.take (k + 1))) = wdCells (rowsN (ts.take k)) ++ [.int .i64 1, .string ⟨t.toArray⟩, .slice none 0 0]) := Lib.hid (by rw [List.take_add_one, ht]; simp [rowsN, wdCells, Wd.kind, Wd.text])
        obtain ⟨b, off, rfl, hb, c0⟩ := HC.out k t ht
        have d0 := (hbr.cell (p := ⟨b, off + k, none⟩) hb).trans c0
        have hltz : (k : Int) < (ts.length : Int) := by omega
        have HO := Lib.hid hown
        clear c0 ht hown
        go_wp2_with (at_builtin; go_must (refine wpList_app3 rfl _ _ 33 rfl 35 Tryz.underlying33 argN_info rfl W.heap.size ov k _ wr rfl HO.out _ _ _ rfl rfl rfl rfl ?c1 (by decide) ?c2 ?_))
        case c1 => omega
        case c2 => exact hbr.size
        intro v' w6 o6 g6
        have y6 := (hbr.alloc hbr.size (.cells #[.int .i64 1, .string ⟨t.toArray⟩, .slice none 0 0] 35)).grown g6 (by have := hbr.size; rw [alloc_size]; omega) (fun g e => (HO.out.lt g e).1)
        rw [← HTK.out] at o6
        go_wp2_with fail
        go_roundg g'
        case measure => omega
        case rel => exact ⟨k + 1, v', by omega, by go_num, rfl, o6, y6⟩
      · have hke : k = ts.length := by omega
        subst hke
        have hr := readsK_own hown (by simp [rowsN]) (fun t ht => HT.out t (List.mem_of_mem_take ht))
        rw [List.take_length, rowsN_words] at hr
        obtain ⟨oa, oc, rfl, -, -⟩ := hr.val
        have hwl : (ts.map atomW).length = ts.length := List.length_map _
        rw [hwl] at hr
        have cP := parse_bad HP.out _ wr hr (HW.out wr hbr).s
        clear hr hown hwl
        have hltz : ¬ ((ts.length : Int) < (ts.length : Int)) := by omega
        go_wp2_with (go_at_call 9; go_loud (((with_reducible refine cP.mono ?_); rintro e w2 ⟨rfl, h2⟩)))
        go_ret
        have y2 := hbr.trans (h2.mono hbr.size)
        exact ⟨rfl, y2.alloc y2.size _⟩
  | ok k =>
    have HP := Lib.hid hp
    obtain ⟨R, hR⟩ : ∃ R, holdsK x k = R := ⟨_, rfl⟩
    dsimp only
    rw [hR]
    have HR := Lib.hid hR
    have HX := Lib.hid hx
    have HLF := Lib.hid hl
    clear h htt hcell hp hR hl hx
    go_enter Tryz.func8, Tryz.ntmps8
    go_wp2_with fail
    go_loopg [7, 14] ts.length (fun g s7 s14 wr => ∃ (k : Nat) (ov : Value), k + g = ts.length ∧ s14 = .int .i64 (k : Int) ∧ ov = s7 ∧ wr.ownsRow W.heap.size 35 3 ov k (wdCells (rowsN (ts.take k))) ∧ Below W.heap.size W wr)
    case atStart => exact ⟨0, _, by omega, rfl, rfl, World.ownsRow_nil _ _ _ _, Below.refl _ _⟩
    case round =>
      obtain ⟨k, ov, hk, rfl, rfl, hown, hbr⟩ := hrel
      by_cases hlt : k < ts.length
      · obtain ⟨g', rfl⟩ : ∃ g', gk = g' + 1 := ⟨gk - 1, by omega⟩
        obtain ⟨t, ht⟩ : ∃ t, ts[k]? = some t := ⟨ts[k], List.getElem?_eq_getElem hlt⟩
        have HTK : Hid (wdCells (rowsN (ts.take (k + 1))) = wdCells (rowsN (ts.take k)) ++ [.int .i64 1, .string ⟨t.toArray⟩, .slice none 0 0]) := Lib.hid (by rw [List.take_add_one, ht]; simp [rowsN, wdCells, Wd.kind, Wd.text])
        obtain ⟨b, off, rfl, hb, c0⟩ := HC.out k t ht
        have d0 := (hbr.cell (p := ⟨b, off + k, none⟩) hb).trans c0
        have hltz : (k : Int) < (ts.length : Int) := by omega
        have HO := Lib.hid hown
        clear c0 ht hown
        go_wp2_with (at_builtin; go_must (refine wpList_app3 rfl _ _ 33 rfl 35 Tryz.underlying33 argN_info rfl W.heap.size ov k _ wr rfl HO.out _ _ _ rfl rfl rfl rfl ?c1 (by decide) ?c2 ?_))
        case c1 => omega
        case c2 => exact hbr.size
        intro v' w6 o6 g6
        have y6 := (hbr.alloc hbr.size (.cells #[.int .i64 1, .string ⟨t.toArray⟩, .slice none 0 0] 35)).grown g6 (by have := hbr.size; rw [alloc_size]; omega) (fun g e => (HO.out.lt g e).1)
        rw [← HTK.out] at o6
        go_wp2_with fail
        go_roundg g'
        case measure => omega
        case rel => exact ⟨k + 1, v', by omega, by go_num, rfl, o6, y6⟩
      · have hke : k = ts.length := by omega
        subst hke
        have hr := readsK_own hown (by simp [rowsN]) (fun t ht => HT.out t (List.mem_of_mem_take ht))
        rw [List.take_length, rowsN_words] at hr
        obtain ⟨oa, oc, rfl, -, -⟩ := hr.val
        have hwl : (ts.map atomW).length = ts.length := List.length_map _
        rw [hwl] at hr
        have cP := parse_good HP.out _ wr hr (HW.out wr hbr).s
        clear hr hown hwl
        have hltz : ¬ ((ts.length : Int) < (ts.length : Int)) := by omega
        go_wp2_with (first
          | (go_at_call 9; go_loud (((with_reducible refine cP.mono ?_); rintro e w2 ⟨code, name, text, n, set, keys, sa, ka, sc, kc, rfl, hk, h2⟩; have y2 := hbr.trans (h2.mono hbr.size); have b3 := (Below.refl w2.heap.size w2).alloc (Nat.le_refl _) (.cells #[.int .i64 code, .string ⟨name.toArray⟩, .string ⟨text.toArray⟩, .int .i64 n, .slice sa set.length sc, .slice ka keys.length kc] 38); have z3 := World.heap_alloc_new w2 (.cells #[.int .i64 code, .string ⟨name.toArray⟩, .string ⟨text.toArray⟩, .int .i64 n, .slice sa set.length sc, .slice ka keys.length kc] 38); have y3 := y2.trans (b3.mono y2.size); have w3h := HW.out _ y3; have c1 := holds_any x fv HLF.out HX.out hk.out _ b3 w3h.f w3h.s.maxL; rw [HR.out] at c1; obtain ⟨k0, k1, k2, k3, k4, k5⟩ := six_cells' z3; obtain ⟨l0, l1, l2, l3⟩ := four_cells w3h.l; have n0 := one_cell w3h.n; have m0 := one_cell w3h.m; have g0 := one_cell w3h.g)))
          | (go_at_call 10; go_loud (((with_reducible refine c1.mono ?_); rintro e w4 ⟨rfl, h4⟩; have y4 := y3.trans (h4.mono y3.size)))))
        go_ret
        exact ⟨rfl, y4⟩
end Go.Proofs.YtgblgbhfgiajiaaGreatDoor
namespace Go.Proofs.YtgblgbhfgiajiaaGreatDoor
open Go.RowKit Go.Shelf Go.Sort
set_option linter.unusedSimpArgs false

theorem srow_block {W : World} {g : Nat} {cs : Array Value} {T : TypeId} {fz : Nat × Nat} {ts : List (List UInt8)} (hg : W.heap[g]? = some (.cells cs T fz)) (hc : cs.toList = ts.map fun t => .string ⟨t.toArray⟩) (n : Nat) (hn : n = ts.length) (hl : ts.length ≤ 9223372036854775807 := by simp) : SRow W (.slice (some ⟨g, 0, none⟩) n n) ts := by
  subst hn
  refine ⟨_, _, rfl, Nat.le_refl _, ⟨hl, fun h => by cases h⟩, fun j t hj => ⟨g, 0, rfl, (Array.getElem?_eq_some_iff.1 hg).1, ?_⟩⟩
  rw [Nat.zero_add, Lib.cell_of_heap hg, ← Array.getElem?_toList, hc, List.getElem?_map, hj]
  rfl
theorem hop1 {n : Nat} {w v u : World} {A : Obj} (y : Below n w v) (hn : n ≤ v.heap.size) (h : Below (v.alloc A).heap.size (v.alloc A) u) : Below n w u := by
  have y1 := y.alloc hn A
  exact y1.trans (h.mono (by rw [alloc_size]; omega))
theorem hop2 {n : Nat} {w v u : World} {A B : Obj} (y : Below n w v) (hn : n ≤ v.heap.size) (h : Below ((v.alloc A).alloc B).heap.size ((v.alloc A).alloc B) u) : Below n w u :=
  hop1 (y.alloc hn A) (by rw [alloc_size]; omega) h
theorem hopd {n : Nat} {w v u : World} (y : Below n w v) (hn : n ≤ v.heap.size) (h : Below v.drew.heap.size v.drew u) : Below n w u := y.drew.trans (h.mono hn)
theorem dnew (w : World) (A : Obj) : ((w.alloc A).drew).heap[w.heap.size]? = some A := World.heap_alloc_new w A
theorem dold2 (w : World) (A B : Obj) : (((w.alloc A).alloc B).drew).heap[w.heap.size]? = some A := heap_alloc2_old w A B
theorem dnew2 (w : World) (A B : Obj) : (((w.alloc A).alloc B).drew).heap[w.heap.size + 1]? = some B := heap_alloc2_new w A B
theorem al2 {n : Nat} {w v : World} {A B : Obj} (y : Below n w v) (hn : n ≤ v.heap.size) : Below n w ((v.alloc A).alloc B) := (y.alloc hn A).alloc (by rw [alloc_size]; omega) B
theorem near_key {l : List Wd} {k : KeyP} (h : parseK l = .ok k) (x : LetK) : hearP x l = holdsK x k := by unfold hearP; rw [h]
set_option maxRecDepth 100000 in
set_option maxHeartbeats 16000000 in
theorem numbersK_any (x : LetK) (fv : Value) (lv : Value) (l : List Rg) (nn : Int) (w : World) (hf : SRow w fv x.flags) (hft : ∀ t ∈ x.flags, t.length ≤ 9223372036854775807) (hxt : x.text.length ≤ 9223372036854775807) (hlr : RgRow w lv l) (hlo : -9223372036854775808 ≤ nn) (hhi : nn ≤ 9223372036854775807) (hG : SrG w) :
    Calls Tryz.prog 3 #[lv, .agg #[.int .i64 x.uid, fv, .int .i64 x.day, .string ⟨x.text.toArray⟩], .int .i64 x.which, .int .i64 x.many, .int .i64 x.greatest, .int .i64 nn] w fun e w' => e = .returned (.bool true) ∧ Below w.heap.size w w' := by
  have HLR := Lib.hid hlr
  obtain ⟨la, lc, rfl, -, ⟨hlm, -⟩, -⟩ := hlr
  have hts := text_size x.text
  have hn : NearW x fv w.heap.size (w.heap.size + 1) (w.heap.size + 2) (w.heap.size + 3) ((((w.alloc (.cells #[.int .i64 x.uid, fv, .int .i64 x.day, .string ⟨x.text.toArray⟩] 25)).alloc (.cells #[.int .i64 x.which] 3)).alloc (.cells #[.int .i64 x.many] 3)).alloc (.cells #[.int .i64 x.greatest] 3)) ∧ Below w.heap.size w ((((w.alloc (.cells #[.int .i64 x.uid, fv, .int .i64 x.day, .string ⟨x.text.toArray⟩] 25)).alloc (.cells #[.int .i64 x.which] 3)).alloc (.cells #[.int .i64 x.many] 3)).alloc (.cells #[.int .i64 x.greatest] 3)) := by
    have s1 := alloc_size w (.cells #[.int .i64 x.uid, fv, .int .i64 x.day, .string ⟨x.text.toArray⟩] 25)
    have l1 := World.heap_alloc_new w (.cells #[.int .i64 x.uid, fv, .int .i64 x.day, .string ⟨x.text.toArray⟩] 25)
    have b1 := (Below.refl w.heap.size w).alloc (Nat.le_refl _) (.cells #[.int .i64 x.uid, fv, .int .i64 x.day, .string ⟨x.text.toArray⟩] 25)
    generalize (w.alloc (.cells #[.int .i64 x.uid, fv, .int .i64 x.day, .string ⟨x.text.toArray⟩] 25)) = w1 at *
    have s2 := alloc_size w1 (.cells #[.int .i64 x.which] 3)
    have n2 := World.heap_alloc_new w1 (.cells #[.int .i64 x.which] 3)
    have l2 := alloc_same (x := .cells #[.int .i64 x.which] 3) l1
    have b2 := b1.alloc (by omega) (.cells #[.int .i64 x.which] 3)
    generalize w1.alloc (.cells #[.int .i64 x.which] 3) = w2 at *
    have s3 := alloc_size w2 (.cells #[.int .i64 x.many] 3)
    have m3 := World.heap_alloc_new w2 (.cells #[.int .i64 x.many] 3)
    have l3 := alloc_same (x := .cells #[.int .i64 x.many] 3) l2
    have n3 := alloc_same (x := .cells #[.int .i64 x.many] 3) n2
    have b3 := b2.alloc (by omega) (.cells #[.int .i64 x.many] 3)
    generalize w2.alloc (.cells #[.int .i64 x.many] 3) = w3 at *
    have g4 := World.heap_alloc_new w3 (.cells #[.int .i64 x.greatest] 3)
    have l4 := alloc_same (x := .cells #[.int .i64 x.greatest] 3) l3
    have n4 := alloc_same (x := .cells #[.int .i64 x.greatest] 3) n3
    have m4 := alloc_same (x := .cells #[.int .i64 x.greatest] 3) m3
    have b4 := b3.alloc (by omega) (.cells #[.int .i64 x.greatest] 3)
    rw [s1] at n4
    rw [s2, s1] at m4
    rw [s3, s2, s1] at g4
    exact ⟨⟨l4, n4, m4, g4, hf.below b4, hG.below b4⟩, b4⟩
  obtain ⟨hN, hY⟩ := hn
  have HN := Lib.hid hN
  have Y4 := Lib.hid hY
  have HG0 := Lib.hid (fun W (h : Below w.heap.size w W) => hG.below h)
  have cT1 := texts_any fv x.flags _ hN.f hft
  have l1 := (four_cells hN.l).2.1
  have l3 := fun W (hW : Below ((((w.alloc (.cells #[.int .i64 x.uid, fv, .int .i64 x.day, .string ⟨x.text.toArray⟩] 25)).alloc (.cells #[.int .i64 x.which] 3)).alloc (.cells #[.int .i64 x.many] 3)).alloc (.cells #[.int .i64 x.greatest] 3)).heap.size ((((w.alloc (.cells #[.int .i64 x.uid, fv, .int .i64 x.day, .string ⟨x.text.toArray⟩] 25)).alloc (.cells #[.int .i64 x.which] 3)).alloc (.cells #[.int .i64 x.many] 3)).alloc (.cells #[.int .i64 x.greatest] 3)) W) => (four_cells (below_same hW HN.out.l)).2.2.2
  clear hN hY hG hf hft
  by_cases h15 : (15 : Int) < (l.length : Int)
  · clear cT1 l3 l1
    go_enter Tryz.func3, Tryz.ntmps3
    go_wp2_with fail
    go_ret
    exact ⟨rfl, Y4.out⟩
  cases htx : textsF x.flags with
  | false =>
    rw [htx] at cT1
    clear htx
    go_enter Tryz.func3, Tryz.ntmps3
    go_upto_region 1 with fail
    generalize ((((w.alloc (.cells #[.int .i64 x.uid, fv, .int .i64 x.day, .string ⟨x.text.toArray⟩] 25)).alloc (.cells #[.int .i64 x.which] 3)).alloc (.cells #[.int .i64 x.many] 3)).alloc (.cells #[.int .i64 x.greatest] 3)) = w2 at *
    go_wp2_with (go_at_call 4; go_loud (((with_reducible refine cT1.mono ?_); rintro e w3 ⟨rfl, h3⟩)))
    go_ret
    exact ⟨rfl, Y4.out.trans (h3.mono Y4.out.size)⟩
  | true =>
    rw [htx] at cT1
    have HLF : Hid (x.flags.length ≤ 1000000) := Lib.hid (by
      unfold textsF at htx
      rw [Bool.and_eq_true, decide_eq_true_eq] at htx
      omega)
    clear htx
    by_cases h500 : (500 : Int) < (x.text.length : Int)
    · go_enter Tryz.func3, Tryz.ntmps3
      go_upto_region 1 with fail
      generalize ((((w.alloc (.cells #[.int .i64 x.uid, fv, .int .i64 x.day, .string ⟨x.text.toArray⟩] 25)).alloc (.cells #[.int .i64 x.which] 3)).alloc (.cells #[.int .i64 x.many] 3)).alloc (.cells #[.int .i64 x.greatest] 3)) = w2 at *
      go_wp2_with (go_at_call 4; go_loud (((with_reducible refine cT1.mono ?_); rintro e w3 ⟨rfl, h3⟩; have l4 := l3 w3 h3)))
      go_ret
      exact ⟨rfl, Y4.out.trans (h3.mono Y4.out.size)⟩
    have HX : Hid (x.text.length ≤ 9000) := Lib.hid (by omega)
    have cL := fun W (hW : Below w.heap.size w W) => looked_any W (HG0.out W hW)
    have cPr := fun W (hW : Below w.heap.size w W) => printS_any _ l W (HLR.out.below hW) (HG0.out W hW).str
    unfold PrintR at cPr
    cases hrs : rightS l with
    | false =>
      simp only [hrs, Bool.false_eq_true, if_false] at cPr
      clear hrs
      go_enter Tryz.func3, Tryz.ntmps3
      go_upto_region 1 with fail
      generalize ((((w.alloc (.cells #[.int .i64 x.uid, fv, .int .i64 x.day, .string ⟨x.text.toArray⟩] 25)).alloc (.cells #[.int .i64 x.which] 3)).alloc (.cells #[.int .i64 x.many] 3)).alloc (.cells #[.int .i64 x.greatest] 3)) = w2 at *
      go_wp2_with (first
        | (go_at_call 4; go_loud (((with_reducible refine cT1.mono ?_); rintro e w3 ⟨rfl, h3⟩; have l4 := l3 w3 h3; have y3 := Y4.out.trans (h3.mono Y4.out.size); have cL1 := cL w3 y3)))
        | (go_at_call 5; go_loud (((with_reducible refine cL1.mono ?_); rintro e w4 ⟨rfl, h4⟩; have y4 := y3.trans (h4.mono y3.size); have cPr1 := cPr w4 y4)))
        | (go_at_call 6; go_loud (((with_reducible refine cPr1.mono ?_); rintro e w5 ⟨rfl, h5⟩; have y5 := y4.trans (h5.mono y4.size)))))
      go_ret
      exact ⟨rfl, y5⟩
    | true =>
      have hpl := printS_len hrs
      simp only [hrs, if_true] at cPr
      obtain ⟨A, hA⟩ : ∃ A, hasS l x.which x.many = A := ⟨_, rfl⟩
      obtain ⟨B, hB⟩ : ∃ B, hasS l x.uid x.greatest = B := ⟨_, rfl⟩
      have F1 : hearP x [atomW (printS l)] = A := by rw [near_key (parse_set hrs), ← hA]; simp [holdsK]
      have F2 : hearP x [atomW [85, 73, 68], atomW (printS l)] = B := by rw [near_key (parse_uid hrs), ← hB]; simp [holdsK]
      have F3 : hearP x [atomW [117, 105, 100], atomW (printS l), atomW (printS l)] = (B && A) := by rw [near_key (parse_uid2 hrs), ← hA, ← hB]; simp [holdsK, holdsAll]
      have hps : (printS l).length ≤ 2000000 := by omega
      have HRS := Lib.hid hrs
      clear hrs
      generalize printS l = PS at *
      have HF1 := Lib.hid F1
      have HF2 := Lib.hid F2
      have HF3 := Lib.hid F3
      have HSL := Lib.hid hps
      have HA := Lib.hid hA
      have HB := Lib.hid hB
      have hq := pickK_lt nn (show 0 < 1000 by decide)
      have cK : ∀ W, Calls Tryz.prog 7 #[.int .i64 nn, .int .i64 1000] W fun e w' => e = .returned (.int .i64 (pickK nn 1000 : Int)) ∧ W = w' := fun W => pickK_any nn 1000 W (by decide) (by decide) hlo hhi
      generalize pickK nn 1000 = q at *
      have cI := fun W (hW : Below w.heap.size w W) => itoa_any (q : Int) W (by omega) (by omega) (HG0.out W hW).str
      have hdl : (Lib.itoa (q : Int)).length ≤ 2000000 := by
        by_cases h0 : q = 0
        · subst h0
          rw [show Lib.itoa ((0 : Nat) : Int) = [48] by rw [itoa_nat]; decide +kernel]
          simp
        · have h := textN_len (n := (q : Int)) (by unfold okN; rw [Bool.and_eq_true, decide_eq_true_eq, decide_eq_true_eq]; omega)
          unfold textN at h
          rw [if_neg (by omega)] at h
          omega
      have G1 : hearP x [atomW [66, 69, 70, 79, 82, 69], atomW (Lib.itoa (q : Int))] = decide (x.day < (q : Int)) := by rw [near_key (parse_num _ 8 (by decide) (by decide) (by decide) q (by omega))]; simp [holdsK]
      have G2 : hearP x [atomW [83, 73, 78, 67, 69], atomW (Lib.itoa (q : Int))] = decide ((q : Int) ≤ x.day) := by rw [near_key (parse_num _ 10 (by decide) (by decide) (by decide) q (by omega))]; simp [holdsK]
      have G3 : hearP x [atomW [79, 78], atomW (Lib.itoa (q : Int))] = decide (x.day = (q : Int)) := by rw [near_key (parse_num _ 9 (by decide) (by decide) (by decide) q (by omega))]; simp [holdsK]
      have G4 : hearP x [atomW [76, 65, 82, 71, 69, 82], atomW (Lib.itoa (q : Int))] = decide ((q : Int) < (x.text.length : Int)) := by rw [near_key (parse_num _ 6 (by decide) (by decide) (by decide) q (by omega))]; simp [holdsK]
      have G5 : hearP x [atomW [83, 77, 65, 76, 76, 69, 82], atomW (Lib.itoa (q : Int))] = decide ((x.text.length : Int) < (q : Int)) := by rw [near_key (parse_num _ 7 (by decide) (by decide) (by decide) q (by omega))]; simp [holdsK]
      generalize Lib.itoa (q : Int) = D at *
      have HG1 := Lib.hid G1
      have HG2 := Lib.hid G2
      have HG3 := Lib.hid G3
      have HG4 := Lib.hid G4
      have HG5 := Lib.hid G5
      have HDL := Lib.hid hdl
      clear F1 F2 F3 G1 G2 G3 G4 G5 hps hdl hA hB hpl
      go_enter Tryz.func3, Tryz.ntmps3
      go_upto_region 1 with fail
      generalize ((((w.alloc (.cells #[.int .i64 x.uid, fv, .int .i64 x.day, .string ⟨x.text.toArray⟩] 25)).alloc (.cells #[.int .i64 x.which] 3)).alloc (.cells #[.int .i64 x.many] 3)).alloc (.cells #[.int .i64 x.greatest] 3)) = w2 at *
      go_upto_region 11 with (first
        | (go_at_call 4; go_loud (((with_reducible refine cT1.mono ?_); rintro e w3 ⟨rfl, h3⟩; have l4 := l3 w3 h3; have y3 := Y4.out.trans (h3.mono Y4.out.size); have cL1 := cL w3 y3)))
        | (go_at_call 5; go_loud (((with_reducible refine cL1.mono ?_); rintro e w4 ⟨rfl, h4⟩; have y4 := y3.trans (h4.mono y3.size); have h24 := h3.trans (h4.mono h3.size); have cPr1 := cPr w4 y4)))
        | (go_at_call 6; go_loud (((with_reducible refine cPr1.mono ?_); rintro e w5 ⟨rfl, h5⟩; have y5 := y4.trans (h5.mono y4.size); have h25 := h24.trans (h5.mono h24.size); have cI1 := cI w5 y5)))
        | (go_at_call 7; go_loud (((with_reducible refine (cK _).mono ?_); rintro e w6 ⟨rfl, hw6⟩; rw [← hw6]; clear hw6)))
        | (go_at_call 11; go_loud (((with_reducible refine cI1.mono ?_); rintro e w1 ⟨rfl, h6⟩; have y1 := y5.trans (h6.mono y5.size); have h21 := h25.trans (h6.mono h25.size)))))
      clear cL cPr cK cI cL1 cPr1 cI1 cT1 l1 l3 l4
      have HW := Lib.hid (fun W (h : Below w1.heap.size w1 W) => HN.out.below (h21.trans (h.mono h21.size)))
      have KEEP := Lib.hid (fun W (h : Below w1.heap.size w1 W) => (show W.cell? ⟨w.heap.size + 1, 0, none⟩ = some (.int .i64 x.which) ∧ W.cell? ⟨w.heap.size + 2, 0, none⟩ = some (.int .i64 x.many) ∧ W.cell? ⟨w.heap.size, 0, none⟩ = some (.int .i64 x.uid) ∧ W.cell? ⟨w.heap.size + 3, 0, none⟩ = some (.int .i64 x.greatest) ∧ W.cell? ⟨w.heap.size, 2, none⟩ = some (.int .i64 x.day) ∧ W.cell? ⟨w.heap.size, 3, none⟩ = some (.string ⟨x.text.toArray⟩) from by
        have hn := HW.out W h
        obtain ⟨l0, l1, l2, l3⟩ := four_cells hn.l
        exact ⟨one_cell hn.n, one_cell hn.m, l0, one_cell hn.g, l2, l3⟩))
      have HH1 := Lib.hid (fun W (h : Below w1.heap.size w1 W) => hasS_any _ l x.which x.many W (HLR.out.below (y1.trans (h.mono y1.size))))
      have HH2 := Lib.hid (fun W (h : Below w1.heap.size w1 W) => hasS_any _ l x.uid x.greatest W (HLR.out.below (y1.trans (h.mono y1.size))))
      have c1 : ∀ (W : World) (g : Nat), W.heap[g]? = some (.cells #[.string ⟨PS.toArray⟩] 9 (0, 0)) → Below w1.heap.size w1 W → Calls Tryz.prog 8 #[.slice (some ⟨g, 0, none⟩) 1 1, .pointer (some ⟨w.heap.size, 0, none⟩), .pointer (some ⟨w.heap.size + 1, 0, none⟩), .pointer (some ⟨w.heap.size + 2, 0, none⟩), .pointer (some ⟨w.heap.size + 3, 0, none⟩)] W fun e w' => e = .returned (.bool A) ∧ Below W.heap.size W w' := fun W g hg hW => by
        have hr := hearN_any x fv HLF.out HX.out (.slice (some ⟨g, 0, none⟩) 1 1) [PS] w.heap.size (w.heap.size + 1) (w.heap.size + 2) (w.heap.size + 3) W (HW.out W hW) (srow_block (ts := [PS]) hg rfl 1 rfl) (by simp) (fun t ht => by
          simp only [List.mem_cons, List.not_mem_nil, or_false] at ht
          rcases ht with rfl <;> first | exact HSL.out | exact HDL.out | (simp; done))
        rw [show [PS].map atomW = [atomW PS] from rfl, HF1.out] at hr
        exact hr
      have Hc1 := Lib.hid c1
      clear c1
      have c2 : ∀ (W : World) (g : Nat), W.heap[g]? = some (.cells #[.string ⟨#[85, 73, 68]⟩, .string ⟨PS.toArray⟩] 9 (0, 0)) → Below w1.heap.size w1 W → Calls Tryz.prog 8 #[.slice (some ⟨g, 0, none⟩) 2 2, .pointer (some ⟨w.heap.size, 0, none⟩), .pointer (some ⟨w.heap.size + 1, 0, none⟩), .pointer (some ⟨w.heap.size + 2, 0, none⟩), .pointer (some ⟨w.heap.size + 3, 0, none⟩)] W fun e w' => e = .returned (.bool B) ∧ Below W.heap.size W w' := fun W g hg hW => by
        have hr := hearN_any x fv HLF.out HX.out (.slice (some ⟨g, 0, none⟩) 2 2) [[85, 73, 68], PS] w.heap.size (w.heap.size + 1) (w.heap.size + 2) (w.heap.size + 3) W (HW.out W hW) (srow_block (ts := [[85, 73, 68], PS]) hg rfl 2 rfl) (by simp) (fun t ht => by
          simp only [List.mem_cons, List.not_mem_nil, or_false] at ht
          rcases ht with rfl | rfl <;> first | exact HSL.out | exact HDL.out | (simp; done))
        rw [show [[85, 73, 68], PS].map atomW = [atomW [85, 73, 68], atomW PS] from rfl, HF2.out] at hr
        exact hr
      have Hc2 := Lib.hid c2
      clear c2
      have c3 : ∀ (W : World) (g : Nat), W.heap[g]? = some (.cells #[.string ⟨#[117, 105, 100]⟩, .string ⟨PS.toArray⟩, .string ⟨PS.toArray⟩] 9 (0, 0)) → Below w1.heap.size w1 W → Calls Tryz.prog 8 #[.slice (some ⟨g, 0, none⟩) 3 3, .pointer (some ⟨w.heap.size, 0, none⟩), .pointer (some ⟨w.heap.size + 1, 0, none⟩), .pointer (some ⟨w.heap.size + 2, 0, none⟩), .pointer (some ⟨w.heap.size + 3, 0, none⟩)] W fun e w' => e = .returned (.bool (B && A)) ∧ Below W.heap.size W w' := fun W g hg hW => by
        have hr := hearN_any x fv HLF.out HX.out (.slice (some ⟨g, 0, none⟩) 3 3) [[117, 105, 100], PS, PS] w.heap.size (w.heap.size + 1) (w.heap.size + 2) (w.heap.size + 3) W (HW.out W hW) (srow_block (ts := [[117, 105, 100], PS, PS]) hg rfl 3 rfl) (by simp) (fun t ht => by
          simp only [List.mem_cons, List.not_mem_nil, or_false] at ht
          rcases ht with rfl | rfl | rfl <;> first | exact HSL.out | exact HDL.out | (simp; done))
        rw [show [[117, 105, 100], PS, PS].map atomW = [atomW [117, 105, 100], atomW PS, atomW PS] from rfl, HF3.out] at hr
        exact hr
      have Hc3 := Lib.hid c3
      clear c3
      rw [HA.out] at HH1
      rw [HB.out] at HH2
      have Hc3 := Hc3.out
      have HH1 := Lib.hid HH1.out
      have HH2 := Lib.hid HH2.out
      have y := Below.refl w1.heap.size w1
      go_cut [84] (fun s84 wx => s84 = .bool false ∧ Below w1.heap.size w1 wx)
      case first =>
        clear HG1 HG2 HG3 HG4 HG5 HDL HN HLR HRS Y4 HG0 HW HF1 HF2 HF3 HA HB HSL h3 h4 h5 h6 h24 h25 y3 y4 y5 hlo hhi hxt hlm hts h15 h500 hq
        cases B with
        | true =>
          simp only [Bool.true_and] at Hc3
          have Hc3 := Lib.hid Hc3
          as_aux_lemma =>
            have yd := y.drew
            refine wp_region_held_drew (S := fun W => W.cell? ⟨w.heap.size + 1, 0, none⟩ = some (.int .i64 x.which) ∧ W.cell? ⟨w.heap.size + 2, 0, none⟩ = some (.int .i64 x.many) ∧ W.cell? ⟨w.heap.size, 0, none⟩ = some (.int .i64 x.uid) ∧ W.cell? ⟨w.heap.size + 3, 0, none⟩ = some (.int .i64 x.greatest) ∧ W.cell? ⟨w.heap.size, 2, none⟩ = some (.int .i64 x.day) ∧ W.cell? ⟨w.heap.size, 3, none⟩ = some (.string ⟨x.text.toArray⟩)) (by kernel_rfl) (KEEP.out _ yd) (fun hHeld => ?_)
            generalize w1.drew = wd at *
            refine wpAnyH_take (i := 0) (oi := ⟨_, _, _, _, _, _⟩) (v := ?hv1) rfl (by kernel_rfl) (by kernel_rfl) (by kernel_rfl) (fun _ _ _ h => h) (Or.inl ⟨by rfl, ?hy1⟩) hHeld ?hr1
            case hy1 => (intro W hSw; (try dsimp only at hSw); go_simp; try with_reducible rfl)
            try simp only [Act.put, List.setIfInBounds_toArray, List.set_cons_zero, List.set_cons_succ]
            refine wpAnyH_take (i := 1) (oi := ⟨_, _, _, _, _, _⟩) (v := ?hv2) rfl (by kernel_rfl) (by kernel_rfl) (by kernel_rfl) (fun _ _ _ h => h) (Or.inl ⟨by rfl, ?hy2⟩) hHeld ?hr2
            case hy2 => (intro W hSw; (try dsimp only at hSw); go_simp; try with_reducible rfl)
            try simp only [Act.put, List.setIfInBounds_toArray, List.set_cons_zero, List.set_cons_succ]
            refine wpAnyH_take (i := 4) (oi := ⟨_, _, _, _, _, _⟩) (v := ?hv3) rfl (by kernel_rfl) (by kernel_rfl) (by kernel_rfl) (fun _ _ _ h => h) (Or.inl ⟨by rfl, ?hy3⟩) hHeld ?hr3
            case hy3 => (intro W hSw; (try dsimp only at hSw); go_simp; try with_reducible rfl)
            try simp only [Act.put, List.setIfInBounds_toArray, List.set_cons_zero, List.set_cons_succ]
            refine wpAnyH_take (i := 5) (oi := ⟨_, _, _, _, _, _⟩) (v := ?hv4) rfl (by kernel_rfl) (by kernel_rfl) (by kernel_rfl) (fun _ _ _ h => h) (Or.inl ⟨by rfl, ?hy4⟩) hHeld ?hr4
            case hy4 => (intro W hSw; (try dsimp only at hSw); go_simp; try with_reducible rfl)
            try simp only [Act.put, List.setIfInBounds_toArray, List.set_cons_zero, List.set_cons_succ]
            refine wpAnyH_take (i := 6) (oi := ⟨_, _, _, _, _, _⟩) (v := ?hv5) rfl (by kernel_rfl) (by kernel_rfl) (by kernel_rfl) (fun _ _ _ h => h) (Or.inl ⟨by rfl, ?hy5⟩) hHeld ?hr5
            case hy5 => (intro W hSw; (try dsimp only at hSw); go_simp; try with_reducible rfl)
            try simp only [Act.put, List.setIfInBounds_toArray, List.set_cons_zero, List.set_cons_succ]
            refine wpAnyH_ready (rs := [2]) (by kernel_rfl) (by simp) ?_
            refine AllReadyH.cons (o := ⟨_, _, _, _, _, _⟩) rfl (fun K hK => ?hs6) ?hm6
            case hs6 =>
              go_simp
              skip
              refine hK.out _ _ ?hS6 (fun hHeld => ?hR6)
              case hS6 => exact KEEP.out _ (yd.alloc yd.size _)
              clear hK K
              try simp only [Act.put, List.setIfInBounds_toArray, List.set_cons_zero, List.set_cons_succ]
              refine wpAnyH_ready (rs := [3]) (by kernel_rfl) (by simp) ?_
              refine AllReadyH.cons (o := ⟨_, _, _, _, _, _⟩) rfl (fun K hK => ?hs7) ?hm7
              case hs7 =>
                go_simp
                (with_reducible refine (Hc1.out _ _ (World.heap_alloc_new _ _) (yd.alloc yd.size _)).mono ?_)
                rintro e u1 ⟨rfl, h1⟩
                have y1 := hop1 yd yd.size h1
                go_wp2_with fail
                refine hK.out _ _ ?hS7 (fun hHeld => ?hR7)
                case hS7 => exact KEEP.out _ y1
                clear hK K
                try simp only [Act.put, List.setIfInBounds_toArray, List.set_cons_zero, List.set_cons_succ]
                refine wpAnyH_ready (rs := [7]) (by kernel_rfl) (by simp) ?_
                refine AllReadyH.cons (o := ⟨_, _, _, _, _, _⟩) rfl (fun K hK => ?hs8) ?hm8
                case hs8 =>
                  go_simp
                  (with_reducible refine (HH1.out _ y1).mono ?_)
                  rintro e u2 ⟨rfl, h2⟩
                  have y2 := y1.trans (h2.mono y1.size)
                  go_wp2_with fail
                  refine hK.out _ _ ?hS8 (fun hHeld => ?hR8)
                  case hS8 => exact KEEP.out _ y2
                  clear hK K
                  try simp only [Act.put, List.setIfInBounds_toArray, List.set_cons_zero, List.set_cons_succ]
                  refine wpAnyH_take (i := 8) (oi := ⟨_, _, _, _, _, _⟩) (v := ?hv9) rfl (by kernel_rfl) (by kernel_rfl) (by kernel_rfl) (fun _ _ _ h => h) (Or.inl ⟨by rfl, ?hy9⟩) hHeld ?hr9
                  case hy9 => (intro W hSw; (try dsimp only at hSw); go_simp; try with_reducible rfl)
                  try simp only [Act.put, List.setIfInBounds_toArray, List.set_cons_zero, List.set_cons_succ]
                  refine wpAnyH_take (i := 9) (oi := ⟨_, _, _, _, _, _⟩) (v := ?hv10) rfl (by kernel_rfl) (by kernel_rfl) (by kernel_rfl) (fun _ _ _ h => h) (Or.inl ⟨by rfl, ?hy10⟩) hHeld ?hr10
                  case hy10 => (intro W hSw; (try dsimp only at hSw); go_simp; try with_reducible rfl)
                  try simp only [Act.put, List.setIfInBounds_toArray, List.set_cons_zero, List.set_cons_succ]
                  refine wpAnyH_take (i := 10) (oi := ⟨_, _, _, _, _, _⟩) (v := ?hv11) rfl (by kernel_rfl) (by kernel_rfl) (by kernel_rfl) (fun _ _ _ h => h) (Or.inl ⟨by rfl, ?hy11⟩) hHeld ?hr11
                  case hy11 => (intro W hSw; (try dsimp only at hSw); go_simp; try with_reducible rfl)
                  try simp only [Act.put, List.setIfInBounds_toArray, List.set_cons_zero, List.set_cons_succ]
                  refine wpAnyH_take (i := 11) (oi := ⟨_, _, _, _, _, _⟩) (v := ?hv12) rfl (by kernel_rfl) (by kernel_rfl) (by kernel_rfl) (fun _ _ _ h => h) (Or.inl ⟨by rfl, ?hy12⟩) hHeld ?hr12
                  case hy12 => (intro W hSw; (try dsimp only at hSw); go_simp; try with_reducible rfl)
                  try simp only [Act.put, List.setIfInBounds_toArray, List.set_cons_zero, List.set_cons_succ]
                  refine wpAnyH_take (i := 14) (oi := ⟨_, _, _, _, _, _⟩) (v := ?hv13) rfl (by kernel_rfl) (by kernel_rfl) (by kernel_rfl) (fun _ _ _ h => h) (Or.inl ⟨by rfl, ?hy13⟩) hHeld ?hr13
                  case hy13 => (intro W hSw; (try dsimp only at hSw); go_simp; try with_reducible rfl)
                  try simp only [Act.put, List.setIfInBounds_toArray, List.set_cons_zero, List.set_cons_succ]
                  refine wpAnyH_take (i := 15) (oi := ⟨_, _, _, _, _, _⟩) (v := ?hv14) rfl (by kernel_rfl) (by kernel_rfl) (by kernel_rfl) (fun _ _ _ h => h) (Or.inl ⟨by rfl, ?hy14⟩) hHeld ?hr14
                  case hy14 => (intro W hSw; (try dsimp only at hSw); go_simp; try with_reducible rfl)
                  try simp only [Act.put, List.setIfInBounds_toArray, List.set_cons_zero, List.set_cons_succ]
                  refine wpAnyH_take (i := 16) (oi := ⟨_, _, _, _, _, _⟩) (v := ?hv15) rfl (by kernel_rfl) (by kernel_rfl) (by kernel_rfl) (fun _ _ _ h => h) (Or.inl ⟨by rfl, ?hy15⟩) hHeld ?hr15
                  case hy15 => (intro W hSw; (try dsimp only at hSw); go_simp; try with_reducible rfl)
                  try simp only [Act.put, List.setIfInBounds_toArray, List.set_cons_zero, List.set_cons_succ]
                  refine wpAnyH_take (i := 17) (oi := ⟨_, _, _, _, _, _⟩) (v := ?hv16) rfl (by kernel_rfl) (by kernel_rfl) (by kernel_rfl) (fun _ _ _ h => h) (Or.inl ⟨by rfl, ?hy16⟩) hHeld ?hr16
                  case hy16 => (intro W hSw; (try dsimp only at hSw); go_simp; try with_reducible rfl)
                  try simp only [Act.put, List.setIfInBounds_toArray, List.set_cons_zero, List.set_cons_succ]
                  refine wpAnyH_ready (rs := [12]) (by kernel_rfl) (by simp) ?_
                  refine AllReadyH.cons (o := ⟨_, _, _, _, _, _⟩) rfl (fun K hK => ?hs17) ?hm17
                  case hs17 =>
                    go_simp
                    skip
                    refine hK.out _ _ ?hS17 (fun hHeld => ?hR17)
                    case hS17 => exact KEEP.out _ (y2.alloc y2.size _)
                    clear hK K
                    try simp only [Act.put, List.setIfInBounds_toArray, List.set_cons_zero, List.set_cons_succ]
                    refine wpAnyH_ready (rs := [13]) (by kernel_rfl) (by simp) ?_
                    refine AllReadyH.cons (o := ⟨_, _, _, _, _, _⟩) rfl (fun K hK => ?hs18) ?hm18
                    case hs18 =>
                      go_simp
                      (with_reducible refine (Hc2.out _ _ (World.heap_alloc_new _ _) (y2.alloc y2.size _)).mono ?_)
                      rintro e u3 ⟨rfl, h3⟩
                      have y3 := hop1 y2 y2.size h3
                      go_wp2_with fail
                      refine hK.out _ _ ?hS18 (fun hHeld => ?hR18)
                      case hS18 => exact KEEP.out _ y3
                      clear hK K
                      try simp only [Act.put, List.setIfInBounds_toArray, List.set_cons_zero, List.set_cons_succ]
                      refine wpAnyH_ready (rs := [18]) (by kernel_rfl) (by simp) ?_
                      refine AllReadyH.cons (o := ⟨_, _, _, _, _, _⟩) rfl (fun K hK => ?hs19) ?hm19
                      case hs19 =>
                        go_simp
                        (with_reducible refine (HH2.out _ y3).mono ?_)
                        rintro e u4 ⟨rfl, h4⟩
                        have y4 := y3.trans (h4.mono y3.size)
                        go_wp2_with fail
                        refine hK.out _ _ ?hS19 (fun hHeld => ?hR19)
                        case hS19 => exact KEEP.out _ y4
                        clear hK K
                        try simp only [Act.put, List.setIfInBounds_toArray, List.set_cons_zero, List.set_cons_succ]
                        refine wpAnyH_take (i := 19) (oi := ⟨_, _, _, _, _, _⟩) (v := ?hv20) rfl (by kernel_rfl) (by kernel_rfl) (by kernel_rfl) (fun _ _ _ h => h) (Or.inl ⟨by rfl, ?hy20⟩) hHeld ?hr20
                        case hy20 => (intro W hSw; (try dsimp only at hSw); go_simp; try with_reducible rfl)
                        try simp only [Act.put, List.setIfInBounds_toArray, List.set_cons_zero, List.set_cons_succ]
                        refine wpAnyH_take (i := 20) (oi := ⟨_, _, _, _, _, _⟩) (v := ?hv21) rfl (by kernel_rfl) (by kernel_rfl) (by kernel_rfl) (fun _ _ _ h => h) (Or.inl ⟨by rfl, ?hy21⟩) hHeld ?hr21
                        case hy21 => (intro W hSw; (try dsimp only at hSw); go_simp; try with_reducible rfl)
                        try simp only [Act.put, List.setIfInBounds_toArray, List.set_cons_zero, List.set_cons_succ]
                        refine wpAnyH_take (i := 21) (oi := ⟨_, _, _, _, _, _⟩) (v := ?hv22) rfl (by kernel_rfl) (by kernel_rfl) (by kernel_rfl) (fun _ _ _ h => h) (Or.inl ⟨by rfl, ?hy22⟩) hHeld ?hr22
                        case hy22 => (intro W hSw; (try dsimp only at hSw); go_simp; try with_reducible rfl)
                        try simp only [Act.put, List.setIfInBounds_toArray, List.set_cons_zero, List.set_cons_succ]
                        refine wpAnyH_take (i := 22) (oi := ⟨_, _, _, _, _, _⟩) (v := ?hv23) rfl (by kernel_rfl) (by kernel_rfl) (by kernel_rfl) (fun _ _ _ h => h) (Or.inl ⟨by rfl, ?hy23⟩) hHeld ?hr23
                        case hy23 => (intro W hSw; (try dsimp only at hSw); go_simp; try with_reducible rfl)
                        try simp only [Act.put, List.setIfInBounds_toArray, List.set_cons_zero, List.set_cons_succ]
                        refine wpAnyH_take (i := 23) (oi := ⟨_, _, _, _, _, _⟩) (v := ?hv24) rfl (by kernel_rfl) (by kernel_rfl) (by kernel_rfl) (fun _ _ _ h => h) (Or.inl ⟨by rfl, ?hy24⟩) hHeld ?hr24
                        case hy24 => (intro W hSw; (try dsimp only at hSw); go_simp; try with_reducible rfl)
                        try simp only [Act.put, List.setIfInBounds_toArray, List.set_cons_zero, List.set_cons_succ]
                        refine wpAnyH_take (i := 24) (oi := ⟨_, _, _, _, _, _⟩) (v := ?hv25) rfl (by kernel_rfl) (by kernel_rfl) (by kernel_rfl) (fun _ _ _ h => h) (Or.inl ⟨by rfl, ?hy25⟩) hHeld ?hr25
                        case hy25 => (intro W hSw; (try dsimp only at hSw); go_simp; try with_reducible rfl)
                        try simp only [Act.put, List.setIfInBounds_toArray, List.set_cons_zero, List.set_cons_succ]
                        refine wpAnyH_take (i := 27) (oi := ⟨_, _, _, _, _, _⟩) (v := ?hv26) rfl (by kernel_rfl) (by kernel_rfl) (by kernel_rfl) (fun _ _ _ h => h) (Or.inl ⟨by rfl, ?hy26⟩) hHeld ?hr26
                        case hy26 => (intro W hSw; (try dsimp only at hSw); go_simp; try with_reducible rfl)
                        try simp only [Act.put, List.setIfInBounds_toArray, List.set_cons_zero, List.set_cons_succ]
                        refine wpAnyH_take (i := 28) (oi := ⟨_, _, _, _, _, _⟩) (v := ?hv27) rfl (by kernel_rfl) (by kernel_rfl) (by kernel_rfl) (fun _ _ _ h => h) (Or.inl ⟨by rfl, ?hy27⟩) hHeld ?hr27
                        case hy27 => (intro W hSw; (try dsimp only at hSw); go_simp; try with_reducible rfl)
                        try simp only [Act.put, List.setIfInBounds_toArray, List.set_cons_zero, List.set_cons_succ]
                        refine wpAnyH_ready (rs := [25, 29]) (by kernel_rfl) (by simp) ?_
                        refine AllReadyH.cons (o := ⟨_, _, _, _, _, _⟩) rfl (fun K hK => ?hs28) ?hm28
                        case hs28 =>
                          go_simp
                          skip
                          refine hK.out _ _ ?hS28 (fun hHeld => ?hR28)
                          case hS28 => exact KEEP.out _ (y4.alloc y4.size _)
                          clear hK K
                          try simp only [Act.put, List.setIfInBounds_toArray, List.set_cons_zero, List.set_cons_succ]
                          refine wpAnyH_ready (rs := [26, 29]) (by kernel_rfl) (by simp) ?_
                          refine AllReadyH.cons (o := ⟨_, _, _, _, _, _⟩) rfl (fun K hK => ?hs29) ?hm29
                          case hs29 =>
                            go_simp
                            (with_reducible refine (Hc3.out _ _ (World.heap_alloc_new _ _) (y4.alloc y4.size _)).mono ?_)
                            rintro e u5 ⟨rfl, h5⟩
                            have y5 := hop1 y4 y4.size h5
                            go_wp2_with fail
                            refine hK.out _ _ ?hS29 (fun hHeld => ?hR29)
                            case hS29 => exact KEEP.out _ y5
                            clear hK K
                            try simp only [Act.put, List.setIfInBounds_toArray, List.set_cons_zero, List.set_cons_succ]
                            refine wpAnyH_ready (rs := [29]) (by kernel_rfl) (by simp) ?_
                            refine AllReadyH.cons (o := ⟨_, _, _, _, _, _⟩) rfl (fun K hK => ?hs30) ?hm30
                            case hs30 =>
                              go_simp
                              skip
                              refine hK.out _ _ ?hS30 (fun hHeld => ?hR30)
                              case hS30 => exact KEEP.out _ (y5.alloc y5.size _)
                              clear hK K
                              try simp only [Act.put, List.setIfInBounds_toArray, List.set_cons_zero, List.set_cons_succ]
                              refine wpAnyH_ready (rs := [30]) (by kernel_rfl) (by simp) ?_
                              refine AllReadyH.cons (o := ⟨_, _, _, _, _, _⟩) rfl (fun K hK => ?hs31) ?hm31
                              case hs31 =>
                                go_simp
                                (with_reducible refine (Hc2.out _ _ (World.heap_alloc_new _ _) (y5.alloc y5.size _)).mono ?_)
                                rintro e u6 ⟨rfl, h6⟩
                                have y6 := hop1 y5 y5.size h6
                                go_wp2_with fail
                                refine hK.out _ _ ?hS31 (fun hHeld => ?hR31)
                                case hS31 => exact KEEP.out _ y6
                                clear hK K
                                try simp only [Act.put, List.setIfInBounds_toArray, List.set_cons_zero, List.set_cons_succ]
                                refine wpAnyH_take (i := 31) (oi := ⟨_, _, _, _, _, _⟩) (v := ?hv32) rfl (by kernel_rfl) (by kernel_rfl) (by kernel_rfl) (fun _ _ _ h => h) (Or.inl ⟨by rfl, ?hy32⟩) hHeld ?hr32
                                case hy32 => (intro W hSw; (try dsimp only at hSw); go_simp; try with_reducible rfl)
                                try simp only [Act.put, List.setIfInBounds_toArray, List.set_cons_zero, List.set_cons_succ]
                                refine wpAnyH_take (i := 32) (oi := ⟨_, _, _, _, _, _⟩) (v := ?hv33) rfl (by kernel_rfl) (by kernel_rfl) (by kernel_rfl) (fun _ _ _ h => h) (Or.inl ⟨by rfl, ?hy33⟩) hHeld ?hr33
                                case hy33 => (intro W hSw; (try dsimp only at hSw); go_simp; try with_reducible rfl)
                                try simp only [Act.put, List.setIfInBounds_toArray, List.set_cons_zero, List.set_cons_succ]
                                refine wpAnyH_take (i := 33) (oi := ⟨_, _, _, _, _, _⟩) (v := ?hv34) rfl (by kernel_rfl) (by kernel_rfl) (by kernel_rfl) (fun _ _ _ h => h) (Or.inl ⟨by rfl, ?hy34⟩) hHeld ?hr34
                                case hy34 => (intro W hSw; (try dsimp only at hSw); go_simp; try with_reducible rfl)
                                try simp only [Act.put, List.setIfInBounds_toArray, List.set_cons_zero, List.set_cons_succ]
                                refine wpAnyH_ready (rs := [34]) (by kernel_rfl) (by simp) ?_
                                refine AllReadyH.cons (o := ⟨_, _, _, _, _, _⟩) rfl (fun K hK => ?hs35) ?hm35
                                case hs35 =>
                                  go_simp
                                  skip
                                  refine hK.out _ _ ?hS35 (fun hHeld => ?hR35)
                                  case hS35 => exact KEEP.out _ (y6.alloc y6.size _)
                                  clear hK K
                                  try simp only [Act.put, List.setIfInBounds_toArray, List.set_cons_zero, List.set_cons_succ]
                                  refine wpAnyH_ready (rs := [35]) (by kernel_rfl) (by simp) ?_
                                  refine AllReadyH.cons (o := ⟨_, _, _, _, _, _⟩) rfl (fun K hK => ?hs36) ?hm36
                                  case hs36 =>
                                    go_simp
                                    (with_reducible refine (Hc1.out _ _ (World.heap_alloc_new _ _) (y6.alloc y6.size _)).mono ?_)
                                    rintro e u7 ⟨rfl, h7⟩
                                    have y7 := hop1 y6 y6.size h7
                                    go_wp2_with fail
                                    refine hK.out _ _ ?hS36 (fun hHeld => ?hR36)
                                    case hS36 => exact KEEP.out _ y7
                                    clear hK K
                                    try simp only [Act.put, List.setIfInBounds_toArray, List.set_cons_zero, List.set_cons_succ]
                                    refine wpAnyH_take (i := 36) (oi := ⟨_, _, _, _, _, _⟩) (v := ?hv37) rfl (by kernel_rfl) (by kernel_rfl) (by kernel_rfl) (fun _ _ _ h => h) (Or.inl ⟨by rfl, ?hy37⟩) hHeld ?hr37
                                    case hy37 => (intro W hSw; (try dsimp only at hSw); go_simp; try with_reducible rfl)
                                    try simp only [Act.put, List.setIfInBounds_toArray, List.set_cons_zero, List.set_cons_succ]
                                    refine wpAnyH_take (i := 37) (oi := ⟨_, _, _, _, _, _⟩) (v := ?hv38) rfl (by kernel_rfl) (by kernel_rfl) (by kernel_rfl) (fun _ _ _ h => h) (Or.inl ⟨by rfl, ?hy38⟩) hHeld ?hr38
                                    case hy38 => (intro W hSw; (try dsimp only at hSw); go_simp; try with_reducible rfl)
                                    try simp only [Act.put, List.setIfInBounds_toArray, List.set_cons_zero, List.set_cons_succ]
                                    refine wpAnyH_take (i := 38) (oi := ⟨_, _, _, _, _, _⟩) (v := ?hv39) rfl (by kernel_rfl) (by kernel_rfl) (by kernel_rfl) (fun _ _ _ h => h) (Or.inl ⟨by rfl, ?hy39⟩) hHeld ?hr39
                                    case hy39 => (intro W hSw; (try dsimp only at hSw); go_simp; try with_reducible rfl)
                                    try simp only [Act.put, List.setIfInBounds_toArray, List.set_cons_zero, List.set_cons_succ]
                                    refine wpAnyH_done (by kernel_rfl) ?_ _
                                    go_wp2_with fail
                                    go_meet
                                    exact ⟨rfl, y7⟩
                                  case hm36 => exact AllReadyH.nil
                                case hm35 => exact AllReadyH.nil
                              case hm31 => exact AllReadyH.nil
                            case hm30 => exact AllReadyH.nil
                          case hm29 =>
                            refine AllReadyH.cons (o := ⟨_, _, _, _, _, _⟩) rfl (fun K hK => ?hs40) ?hm40
                            case hs40 =>
                              go_simp
                              skip
                              refine hK.out _ _ ?hS40 (fun hHeld => ?hR40)
                              case hS40 => exact KEEP.out _ (al2 y4 y4.size)
                              clear hK K
                              try simp only [Act.put, List.setIfInBounds_toArray, List.set_cons_zero, List.set_cons_succ]
                              refine wpAnyH_ready (rs := [26]) (by kernel_rfl) (by simp) ?_
                              refine AllReadyH.cons (o := ⟨_, _, _, _, _, _⟩) rfl (fun K hK => ?hs41) ?hm41
                              case hs41 =>
                                go_simp
                                (with_reducible refine (Hc3.out _ _ (heap_alloc2_old _ _ _) (al2 y4 y4.size)).mono ?_)
                                rintro e u5 ⟨rfl, h5⟩
                                have z5 := below_same h5 (heap_alloc2_new _ _ _)
                                have y5 := hop2 y4 y4.size h5
                                go_wp2_with fail
                                refine hK.out _ _ ?hS41 (fun hHeld => ?hR41)
                                case hS41 => exact KEEP.out _ y5
                                clear hK K
                                try simp only [Act.put, List.setIfInBounds_toArray, List.set_cons_zero, List.set_cons_succ]
                                refine wpAnyH_ready (rs := [30]) (by kernel_rfl) (by simp) ?_
                                refine AllReadyH.cons (o := ⟨_, _, _, _, _, _⟩) rfl (fun K hK => ?hs42) ?hm42
                                case hs42 =>
                                  go_simp
                                  (with_reducible refine (Hc2.out _ _ z5 y5).mono ?_)
                                  rintro e u6 ⟨rfl, h6⟩
                                  have y6 := y5.trans (h6.mono y5.size)
                                  go_wp2_with fail
                                  refine hK.out _ _ ?hS42 (fun hHeld => ?hR42)
                                  case hS42 => exact KEEP.out _ y6
                                  clear hK K
                                  try simp only [Act.put, List.setIfInBounds_toArray, List.set_cons_zero, List.set_cons_succ]
                                  refine wpAnyH_take (i := 31) (oi := ⟨_, _, _, _, _, _⟩) (v := ?hv43) rfl (by kernel_rfl) (by kernel_rfl) (by kernel_rfl) (fun _ _ _ h => h) (Or.inl ⟨by rfl, ?hy43⟩) hHeld ?hr43
                                  case hy43 => (intro W hSw; (try dsimp only at hSw); go_simp; try with_reducible rfl)
                                  try simp only [Act.put, List.setIfInBounds_toArray, List.set_cons_zero, List.set_cons_succ]
                                  refine wpAnyH_take (i := 32) (oi := ⟨_, _, _, _, _, _⟩) (v := ?hv44) rfl (by kernel_rfl) (by kernel_rfl) (by kernel_rfl) (fun _ _ _ h => h) (Or.inl ⟨by rfl, ?hy44⟩) hHeld ?hr44
                                  case hy44 => (intro W hSw; (try dsimp only at hSw); go_simp; try with_reducible rfl)
                                  try simp only [Act.put, List.setIfInBounds_toArray, List.set_cons_zero, List.set_cons_succ]
                                  refine wpAnyH_take (i := 33) (oi := ⟨_, _, _, _, _, _⟩) (v := ?hv45) rfl (by kernel_rfl) (by kernel_rfl) (by kernel_rfl) (fun _ _ _ h => h) (Or.inl ⟨by rfl, ?hy45⟩) hHeld ?hr45
                                  case hy45 => (intro W hSw; (try dsimp only at hSw); go_simp; try with_reducible rfl)
                                  try simp only [Act.put, List.setIfInBounds_toArray, List.set_cons_zero, List.set_cons_succ]
                                  refine wpAnyH_ready (rs := [34]) (by kernel_rfl) (by simp) ?_
                                  refine AllReadyH.cons (o := ⟨_, _, _, _, _, _⟩) rfl (fun K hK => ?hs46) ?hm46
                                  case hs46 =>
                                    go_simp
                                    skip
                                    refine hK.out _ _ ?hS46 (fun hHeld => ?hR46)
                                    case hS46 => exact KEEP.out _ (y6.alloc y6.size _)
                                    clear hK K
                                    try simp only [Act.put, List.setIfInBounds_toArray, List.set_cons_zero, List.set_cons_succ]
                                    refine wpAnyH_ready (rs := [35]) (by kernel_rfl) (by simp) ?_
                                    refine AllReadyH.cons (o := ⟨_, _, _, _, _, _⟩) rfl (fun K hK => ?hs47) ?hm47
                                    case hs47 =>
                                      go_simp
                                      (with_reducible refine (Hc1.out _ _ (World.heap_alloc_new _ _) (y6.alloc y6.size _)).mono ?_)
                                      rintro e u7 ⟨rfl, h7⟩
                                      have y7 := hop1 y6 y6.size h7
                                      go_wp2_with fail
                                      refine hK.out _ _ ?hS47 (fun hHeld => ?hR47)
                                      case hS47 => exact KEEP.out _ y7
                                      clear hK K
                                      try simp only [Act.put, List.setIfInBounds_toArray, List.set_cons_zero, List.set_cons_succ]
                                      refine wpAnyH_take (i := 36) (oi := ⟨_, _, _, _, _, _⟩) (v := ?hv48) rfl (by kernel_rfl) (by kernel_rfl) (by kernel_rfl) (fun _ _ _ h => h) (Or.inl ⟨by rfl, ?hy48⟩) hHeld ?hr48
                                      case hy48 => (intro W hSw; (try dsimp only at hSw); go_simp; try with_reducible rfl)
                                      try simp only [Act.put, List.setIfInBounds_toArray, List.set_cons_zero, List.set_cons_succ]
                                      refine wpAnyH_take (i := 37) (oi := ⟨_, _, _, _, _, _⟩) (v := ?hv49) rfl (by kernel_rfl) (by kernel_rfl) (by kernel_rfl) (fun _ _ _ h => h) (Or.inl ⟨by rfl, ?hy49⟩) hHeld ?hr49
                                      case hy49 => (intro W hSw; (try dsimp only at hSw); go_simp; try with_reducible rfl)
                                      try simp only [Act.put, List.setIfInBounds_toArray, List.set_cons_zero, List.set_cons_succ]
                                      refine wpAnyH_take (i := 38) (oi := ⟨_, _, _, _, _, _⟩) (v := ?hv50) rfl (by kernel_rfl) (by kernel_rfl) (by kernel_rfl) (fun _ _ _ h => h) (Or.inl ⟨by rfl, ?hy50⟩) hHeld ?hr50
                                      case hy50 => (intro W hSw; (try dsimp only at hSw); go_simp; try with_reducible rfl)
                                      try simp only [Act.put, List.setIfInBounds_toArray, List.set_cons_zero, List.set_cons_succ]
                                      refine wpAnyH_done (by kernel_rfl) ?_ _
                                      go_wp2_with fail
                                      go_meet
                                      exact ⟨rfl, y7⟩
                                    case hm47 => exact AllReadyH.nil
                                  case hm46 => exact AllReadyH.nil
                                case hm42 => exact AllReadyH.nil
                              case hm41 => exact AllReadyH.nil
                            case hm40 => exact AllReadyH.nil
                        case hm28 =>
                          refine AllReadyH.cons (o := ⟨_, _, _, _, _, _⟩) rfl (fun K hK => ?hs51) ?hm51
                          case hs51 =>
                            go_simp
                            skip
                            refine hK.out _ _ ?hS51 (fun hHeld => ?hR51)
                            case hS51 => exact KEEP.out _ (y4.alloc y4.size _)
                            clear hK K
                            try simp only [Act.put, List.setIfInBounds_toArray, List.set_cons_zero, List.set_cons_succ]
                            refine wpAnyH_ready (rs := [25]) (by kernel_rfl) (by simp) ?_
                            refine AllReadyH.cons (o := ⟨_, _, _, _, _, _⟩) rfl (fun K hK => ?hs52) ?hm52
                            case hs52 =>
                              go_simp
                              skip
                              refine hK.out _ _ ?hS52 (fun hHeld => ?hR52)
                              case hS52 => exact KEEP.out _ (al2 y4 y4.size)
                              clear hK K
                              try simp only [Act.put, List.setIfInBounds_toArray, List.set_cons_zero, List.set_cons_succ]
                              refine wpAnyH_ready (rs := [26]) (by kernel_rfl) (by simp) ?_
                              refine AllReadyH.cons (o := ⟨_, _, _, _, _, _⟩) rfl (fun K hK => ?hs53) ?hm53
                              case hs53 =>
                                go_simp
                                (with_reducible refine (Hc3.out _ _ (heap_alloc2_new _ _ _) (al2 y4 y4.size)).mono ?_)
                                rintro e u5 ⟨rfl, h5⟩
                                have z5 := below_same h5 (heap_alloc2_old _ _ _)
                                have y5 := hop2 y4 y4.size h5
                                go_wp2_with fail
                                refine hK.out _ _ ?hS53 (fun hHeld => ?hR53)
                                case hS53 => exact KEEP.out _ y5
                                clear hK K
                                try simp only [Act.put, List.setIfInBounds_toArray, List.set_cons_zero, List.set_cons_succ]
                                refine wpAnyH_ready (rs := [30]) (by kernel_rfl) (by simp) ?_
                                refine AllReadyH.cons (o := ⟨_, _, _, _, _, _⟩) rfl (fun K hK => ?hs54) ?hm54
                                case hs54 =>
                                  go_simp
                                  (with_reducible refine (Hc2.out _ _ z5 y5).mono ?_)
                                  rintro e u6 ⟨rfl, h6⟩
                                  have y6 := y5.trans (h6.mono y5.size)
                                  go_wp2_with fail
                                  refine hK.out _ _ ?hS54 (fun hHeld => ?hR54)
                                  case hS54 => exact KEEP.out _ y6
                                  clear hK K
                                  try simp only [Act.put, List.setIfInBounds_toArray, List.set_cons_zero, List.set_cons_succ]
                                  refine wpAnyH_take (i := 31) (oi := ⟨_, _, _, _, _, _⟩) (v := ?hv55) rfl (by kernel_rfl) (by kernel_rfl) (by kernel_rfl) (fun _ _ _ h => h) (Or.inl ⟨by rfl, ?hy55⟩) hHeld ?hr55
                                  case hy55 => (intro W hSw; (try dsimp only at hSw); go_simp; try with_reducible rfl)
                                  try simp only [Act.put, List.setIfInBounds_toArray, List.set_cons_zero, List.set_cons_succ]
                                  refine wpAnyH_take (i := 32) (oi := ⟨_, _, _, _, _, _⟩) (v := ?hv56) rfl (by kernel_rfl) (by kernel_rfl) (by kernel_rfl) (fun _ _ _ h => h) (Or.inl ⟨by rfl, ?hy56⟩) hHeld ?hr56
                                  case hy56 => (intro W hSw; (try dsimp only at hSw); go_simp; try with_reducible rfl)
                                  try simp only [Act.put, List.setIfInBounds_toArray, List.set_cons_zero, List.set_cons_succ]
                                  refine wpAnyH_take (i := 33) (oi := ⟨_, _, _, _, _, _⟩) (v := ?hv57) rfl (by kernel_rfl) (by kernel_rfl) (by kernel_rfl) (fun _ _ _ h => h) (Or.inl ⟨by rfl, ?hy57⟩) hHeld ?hr57
                                  case hy57 => (intro W hSw; (try dsimp only at hSw); go_simp; try with_reducible rfl)
                                  try simp only [Act.put, List.setIfInBounds_toArray, List.set_cons_zero, List.set_cons_succ]
                                  refine wpAnyH_ready (rs := [34]) (by kernel_rfl) (by simp) ?_
                                  refine AllReadyH.cons (o := ⟨_, _, _, _, _, _⟩) rfl (fun K hK => ?hs58) ?hm58
                                  case hs58 =>
                                    go_simp
                                    skip
                                    refine hK.out _ _ ?hS58 (fun hHeld => ?hR58)
                                    case hS58 => exact KEEP.out _ (y6.alloc y6.size _)
                                    clear hK K
                                    try simp only [Act.put, List.setIfInBounds_toArray, List.set_cons_zero, List.set_cons_succ]
                                    refine wpAnyH_ready (rs := [35]) (by kernel_rfl) (by simp) ?_
                                    refine AllReadyH.cons (o := ⟨_, _, _, _, _, _⟩) rfl (fun K hK => ?hs59) ?hm59
                                    case hs59 =>
                                      go_simp
                                      (with_reducible refine (Hc1.out _ _ (World.heap_alloc_new _ _) (y6.alloc y6.size _)).mono ?_)
                                      rintro e u7 ⟨rfl, h7⟩
                                      have y7 := hop1 y6 y6.size h7
                                      go_wp2_with fail
                                      refine hK.out _ _ ?hS59 (fun hHeld => ?hR59)
                                      case hS59 => exact KEEP.out _ y7
                                      clear hK K
                                      try simp only [Act.put, List.setIfInBounds_toArray, List.set_cons_zero, List.set_cons_succ]
                                      refine wpAnyH_take (i := 36) (oi := ⟨_, _, _, _, _, _⟩) (v := ?hv60) rfl (by kernel_rfl) (by kernel_rfl) (by kernel_rfl) (fun _ _ _ h => h) (Or.inl ⟨by rfl, ?hy60⟩) hHeld ?hr60
                                      case hy60 => (intro W hSw; (try dsimp only at hSw); go_simp; try with_reducible rfl)
                                      try simp only [Act.put, List.setIfInBounds_toArray, List.set_cons_zero, List.set_cons_succ]
                                      refine wpAnyH_take (i := 37) (oi := ⟨_, _, _, _, _, _⟩) (v := ?hv61) rfl (by kernel_rfl) (by kernel_rfl) (by kernel_rfl) (fun _ _ _ h => h) (Or.inl ⟨by rfl, ?hy61⟩) hHeld ?hr61
                                      case hy61 => (intro W hSw; (try dsimp only at hSw); go_simp; try with_reducible rfl)
                                      try simp only [Act.put, List.setIfInBounds_toArray, List.set_cons_zero, List.set_cons_succ]
                                      refine wpAnyH_take (i := 38) (oi := ⟨_, _, _, _, _, _⟩) (v := ?hv62) rfl (by kernel_rfl) (by kernel_rfl) (by kernel_rfl) (fun _ _ _ h => h) (Or.inl ⟨by rfl, ?hy62⟩) hHeld ?hr62
                                      case hy62 => (intro W hSw; (try dsimp only at hSw); go_simp; try with_reducible rfl)
                                      try simp only [Act.put, List.setIfInBounds_toArray, List.set_cons_zero, List.set_cons_succ]
                                      refine wpAnyH_done (by kernel_rfl) ?_ _
                                      go_wp2_with fail
                                      go_meet
                                      exact ⟨rfl, y7⟩
                                    case hm59 => exact AllReadyH.nil
                                  case hm58 => exact AllReadyH.nil
                                case hm54 => exact AllReadyH.nil
                              case hm53 => exact AllReadyH.nil
                            case hm52 => exact AllReadyH.nil
                          case hm51 => exact AllReadyH.nil
                      case hm19 => exact AllReadyH.nil
                    case hm18 => exact AllReadyH.nil
                  case hm17 => exact AllReadyH.nil
                case hm8 => exact AllReadyH.nil
              case hm7 => exact AllReadyH.nil
            case hm6 => exact AllReadyH.nil
        | false =>
          simp only [Bool.false_and] at Hc3
          have Hc3 := Lib.hid Hc3
          as_aux_lemma =>
            have yd := y.drew
            refine wp_region_held_drew (S := fun W => W.cell? ⟨w.heap.size + 1, 0, none⟩ = some (.int .i64 x.which) ∧ W.cell? ⟨w.heap.size + 2, 0, none⟩ = some (.int .i64 x.many) ∧ W.cell? ⟨w.heap.size, 0, none⟩ = some (.int .i64 x.uid) ∧ W.cell? ⟨w.heap.size + 3, 0, none⟩ = some (.int .i64 x.greatest) ∧ W.cell? ⟨w.heap.size, 2, none⟩ = some (.int .i64 x.day) ∧ W.cell? ⟨w.heap.size, 3, none⟩ = some (.string ⟨x.text.toArray⟩)) (by kernel_rfl) (KEEP.out _ yd) (fun hHeld => ?_)
            generalize w1.drew = wd at *
            refine wpAnyH_take (i := 0) (oi := ⟨_, _, _, _, _, _⟩) (v := ?hv63) rfl (by kernel_rfl) (by kernel_rfl) (by kernel_rfl) (fun _ _ _ h => h) (Or.inl ⟨by rfl, ?hy63⟩) hHeld ?hr63
            case hy63 => (intro W hSw; (try dsimp only at hSw); go_simp; try with_reducible rfl)
            try simp only [Act.put, List.setIfInBounds_toArray, List.set_cons_zero, List.set_cons_succ]
            refine wpAnyH_take (i := 1) (oi := ⟨_, _, _, _, _, _⟩) (v := ?hv64) rfl (by kernel_rfl) (by kernel_rfl) (by kernel_rfl) (fun _ _ _ h => h) (Or.inl ⟨by rfl, ?hy64⟩) hHeld ?hr64
            case hy64 => (intro W hSw; (try dsimp only at hSw); go_simp; try with_reducible rfl)
            try simp only [Act.put, List.setIfInBounds_toArray, List.set_cons_zero, List.set_cons_succ]
            refine wpAnyH_take (i := 4) (oi := ⟨_, _, _, _, _, _⟩) (v := ?hv65) rfl (by kernel_rfl) (by kernel_rfl) (by kernel_rfl) (fun _ _ _ h => h) (Or.inl ⟨by rfl, ?hy65⟩) hHeld ?hr65
            case hy65 => (intro W hSw; (try dsimp only at hSw); go_simp; try with_reducible rfl)
            try simp only [Act.put, List.setIfInBounds_toArray, List.set_cons_zero, List.set_cons_succ]
            refine wpAnyH_take (i := 5) (oi := ⟨_, _, _, _, _, _⟩) (v := ?hv66) rfl (by kernel_rfl) (by kernel_rfl) (by kernel_rfl) (fun _ _ _ h => h) (Or.inl ⟨by rfl, ?hy66⟩) hHeld ?hr66
            case hy66 => (intro W hSw; (try dsimp only at hSw); go_simp; try with_reducible rfl)
            try simp only [Act.put, List.setIfInBounds_toArray, List.set_cons_zero, List.set_cons_succ]
            refine wpAnyH_take (i := 6) (oi := ⟨_, _, _, _, _, _⟩) (v := ?hv67) rfl (by kernel_rfl) (by kernel_rfl) (by kernel_rfl) (fun _ _ _ h => h) (Or.inl ⟨by rfl, ?hy67⟩) hHeld ?hr67
            case hy67 => (intro W hSw; (try dsimp only at hSw); go_simp; try with_reducible rfl)
            try simp only [Act.put, List.setIfInBounds_toArray, List.set_cons_zero, List.set_cons_succ]
            refine wpAnyH_ready (rs := [2]) (by kernel_rfl) (by simp) ?_
            refine AllReadyH.cons (o := ⟨_, _, _, _, _, _⟩) rfl (fun K hK => ?hs68) ?hm68
            case hs68 =>
              go_simp
              skip
              refine hK.out _ _ ?hS68 (fun hHeld => ?hR68)
              case hS68 => exact KEEP.out _ (yd.alloc yd.size _)
              clear hK K
              try simp only [Act.put, List.setIfInBounds_toArray, List.set_cons_zero, List.set_cons_succ]
              refine wpAnyH_ready (rs := [3]) (by kernel_rfl) (by simp) ?_
              refine AllReadyH.cons (o := ⟨_, _, _, _, _, _⟩) rfl (fun K hK => ?hs69) ?hm69
              case hs69 =>
                go_simp
                (with_reducible refine (Hc1.out _ _ (World.heap_alloc_new _ _) (yd.alloc yd.size _)).mono ?_)
                rintro e u1 ⟨rfl, h1⟩
                have y1 := hop1 yd yd.size h1
                go_wp2_with fail
                refine hK.out _ _ ?hS69 (fun hHeld => ?hR69)
                case hS69 => exact KEEP.out _ y1
                clear hK K
                try simp only [Act.put, List.setIfInBounds_toArray, List.set_cons_zero, List.set_cons_succ]
                refine wpAnyH_ready (rs := [7]) (by kernel_rfl) (by simp) ?_
                refine AllReadyH.cons (o := ⟨_, _, _, _, _, _⟩) rfl (fun K hK => ?hs70) ?hm70
                case hs70 =>
                  go_simp
                  (with_reducible refine (HH1.out _ y1).mono ?_)
                  rintro e u2 ⟨rfl, h2⟩
                  have y2 := y1.trans (h2.mono y1.size)
                  go_wp2_with fail
                  refine hK.out _ _ ?hS70 (fun hHeld => ?hR70)
                  case hS70 => exact KEEP.out _ y2
                  clear hK K
                  try simp only [Act.put, List.setIfInBounds_toArray, List.set_cons_zero, List.set_cons_succ]
                  refine wpAnyH_take (i := 8) (oi := ⟨_, _, _, _, _, _⟩) (v := ?hv71) rfl (by kernel_rfl) (by kernel_rfl) (by kernel_rfl) (fun _ _ _ h => h) (Or.inl ⟨by rfl, ?hy71⟩) hHeld ?hr71
                  case hy71 => (intro W hSw; (try dsimp only at hSw); go_simp; try with_reducible rfl)
                  try simp only [Act.put, List.setIfInBounds_toArray, List.set_cons_zero, List.set_cons_succ]
                  refine wpAnyH_take (i := 9) (oi := ⟨_, _, _, _, _, _⟩) (v := ?hv72) rfl (by kernel_rfl) (by kernel_rfl) (by kernel_rfl) (fun _ _ _ h => h) (Or.inl ⟨by rfl, ?hy72⟩) hHeld ?hr72
                  case hy72 => (intro W hSw; (try dsimp only at hSw); go_simp; try with_reducible rfl)
                  try simp only [Act.put, List.setIfInBounds_toArray, List.set_cons_zero, List.set_cons_succ]
                  refine wpAnyH_take (i := 10) (oi := ⟨_, _, _, _, _, _⟩) (v := ?hv73) rfl (by kernel_rfl) (by kernel_rfl) (by kernel_rfl) (fun _ _ _ h => h) (Or.inl ⟨by rfl, ?hy73⟩) hHeld ?hr73
                  case hy73 => (intro W hSw; (try dsimp only at hSw); go_simp; try with_reducible rfl)
                  try simp only [Act.put, List.setIfInBounds_toArray, List.set_cons_zero, List.set_cons_succ]
                  refine wpAnyH_take (i := 11) (oi := ⟨_, _, _, _, _, _⟩) (v := ?hv74) rfl (by kernel_rfl) (by kernel_rfl) (by kernel_rfl) (fun _ _ _ h => h) (Or.inl ⟨by rfl, ?hy74⟩) hHeld ?hr74
                  case hy74 => (intro W hSw; (try dsimp only at hSw); go_simp; try with_reducible rfl)
                  try simp only [Act.put, List.setIfInBounds_toArray, List.set_cons_zero, List.set_cons_succ]
                  refine wpAnyH_take (i := 14) (oi := ⟨_, _, _, _, _, _⟩) (v := ?hv75) rfl (by kernel_rfl) (by kernel_rfl) (by kernel_rfl) (fun _ _ _ h => h) (Or.inl ⟨by rfl, ?hy75⟩) hHeld ?hr75
                  case hy75 => (intro W hSw; (try dsimp only at hSw); go_simp; try with_reducible rfl)
                  try simp only [Act.put, List.setIfInBounds_toArray, List.set_cons_zero, List.set_cons_succ]
                  refine wpAnyH_take (i := 15) (oi := ⟨_, _, _, _, _, _⟩) (v := ?hv76) rfl (by kernel_rfl) (by kernel_rfl) (by kernel_rfl) (fun _ _ _ h => h) (Or.inl ⟨by rfl, ?hy76⟩) hHeld ?hr76
                  case hy76 => (intro W hSw; (try dsimp only at hSw); go_simp; try with_reducible rfl)
                  try simp only [Act.put, List.setIfInBounds_toArray, List.set_cons_zero, List.set_cons_succ]
                  refine wpAnyH_take (i := 16) (oi := ⟨_, _, _, _, _, _⟩) (v := ?hv77) rfl (by kernel_rfl) (by kernel_rfl) (by kernel_rfl) (fun _ _ _ h => h) (Or.inl ⟨by rfl, ?hy77⟩) hHeld ?hr77
                  case hy77 => (intro W hSw; (try dsimp only at hSw); go_simp; try with_reducible rfl)
                  try simp only [Act.put, List.setIfInBounds_toArray, List.set_cons_zero, List.set_cons_succ]
                  refine wpAnyH_take (i := 17) (oi := ⟨_, _, _, _, _, _⟩) (v := ?hv78) rfl (by kernel_rfl) (by kernel_rfl) (by kernel_rfl) (fun _ _ _ h => h) (Or.inl ⟨by rfl, ?hy78⟩) hHeld ?hr78
                  case hy78 => (intro W hSw; (try dsimp only at hSw); go_simp; try with_reducible rfl)
                  try simp only [Act.put, List.setIfInBounds_toArray, List.set_cons_zero, List.set_cons_succ]
                  refine wpAnyH_ready (rs := [12]) (by kernel_rfl) (by simp) ?_
                  refine AllReadyH.cons (o := ⟨_, _, _, _, _, _⟩) rfl (fun K hK => ?hs79) ?hm79
                  case hs79 =>
                    go_simp
                    skip
                    refine hK.out _ _ ?hS79 (fun hHeld => ?hR79)
                    case hS79 => exact KEEP.out _ (y2.alloc y2.size _)
                    clear hK K
                    try simp only [Act.put, List.setIfInBounds_toArray, List.set_cons_zero, List.set_cons_succ]
                    refine wpAnyH_ready (rs := [13]) (by kernel_rfl) (by simp) ?_
                    refine AllReadyH.cons (o := ⟨_, _, _, _, _, _⟩) rfl (fun K hK => ?hs80) ?hm80
                    case hs80 =>
                      go_simp
                      (with_reducible refine (Hc2.out _ _ (World.heap_alloc_new _ _) (y2.alloc y2.size _)).mono ?_)
                      rintro e u3 ⟨rfl, h3⟩
                      have y3 := hop1 y2 y2.size h3
                      go_wp2_with fail
                      refine hK.out _ _ ?hS80 (fun hHeld => ?hR80)
                      case hS80 => exact KEEP.out _ y3
                      clear hK K
                      try simp only [Act.put, List.setIfInBounds_toArray, List.set_cons_zero, List.set_cons_succ]
                      refine wpAnyH_ready (rs := [18]) (by kernel_rfl) (by simp) ?_
                      refine AllReadyH.cons (o := ⟨_, _, _, _, _, _⟩) rfl (fun K hK => ?hs81) ?hm81
                      case hs81 =>
                        go_simp
                        (with_reducible refine (HH2.out _ y3).mono ?_)
                        rintro e u4 ⟨rfl, h4⟩
                        have y4 := y3.trans (h4.mono y3.size)
                        go_wp2_with fail
                        refine hK.out _ _ ?hS81 (fun hHeld => ?hR81)
                        case hS81 => exact KEEP.out _ y4
                        clear hK K
                        try simp only [Act.put, List.setIfInBounds_toArray, List.set_cons_zero, List.set_cons_succ]
                        refine wpAnyH_take (i := 19) (oi := ⟨_, _, _, _, _, _⟩) (v := ?hv82) rfl (by kernel_rfl) (by kernel_rfl) (by kernel_rfl) (fun _ _ _ h => h) (Or.inl ⟨by rfl, ?hy82⟩) hHeld ?hr82
                        case hy82 => (intro W hSw; (try dsimp only at hSw); go_simp; try with_reducible rfl)
                        try simp only [Act.put, List.setIfInBounds_toArray, List.set_cons_zero, List.set_cons_succ]
                        refine wpAnyH_take (i := 20) (oi := ⟨_, _, _, _, _, _⟩) (v := ?hv83) rfl (by kernel_rfl) (by kernel_rfl) (by kernel_rfl) (fun _ _ _ h => h) (Or.inl ⟨by rfl, ?hy83⟩) hHeld ?hr83
                        case hy83 => (intro W hSw; (try dsimp only at hSw); go_simp; try with_reducible rfl)
                        try simp only [Act.put, List.setIfInBounds_toArray, List.set_cons_zero, List.set_cons_succ]
                        refine wpAnyH_take (i := 21) (oi := ⟨_, _, _, _, _, _⟩) (v := ?hv84) rfl (by kernel_rfl) (by kernel_rfl) (by kernel_rfl) (fun _ _ _ h => h) (Or.inl ⟨by rfl, ?hy84⟩) hHeld ?hr84
                        case hy84 => (intro W hSw; (try dsimp only at hSw); go_simp; try with_reducible rfl)
                        try simp only [Act.put, List.setIfInBounds_toArray, List.set_cons_zero, List.set_cons_succ]
                        refine wpAnyH_take (i := 22) (oi := ⟨_, _, _, _, _, _⟩) (v := ?hv85) rfl (by kernel_rfl) (by kernel_rfl) (by kernel_rfl) (fun _ _ _ h => h) (Or.inl ⟨by rfl, ?hy85⟩) hHeld ?hr85
                        case hy85 => (intro W hSw; (try dsimp only at hSw); go_simp; try with_reducible rfl)
                        try simp only [Act.put, List.setIfInBounds_toArray, List.set_cons_zero, List.set_cons_succ]
                        refine wpAnyH_take (i := 23) (oi := ⟨_, _, _, _, _, _⟩) (v := ?hv86) rfl (by kernel_rfl) (by kernel_rfl) (by kernel_rfl) (fun _ _ _ h => h) (Or.inl ⟨by rfl, ?hy86⟩) hHeld ?hr86
                        case hy86 => (intro W hSw; (try dsimp only at hSw); go_simp; try with_reducible rfl)
                        try simp only [Act.put, List.setIfInBounds_toArray, List.set_cons_zero, List.set_cons_succ]
                        refine wpAnyH_take (i := 24) (oi := ⟨_, _, _, _, _, _⟩) (v := ?hv87) rfl (by kernel_rfl) (by kernel_rfl) (by kernel_rfl) (fun _ _ _ h => h) (Or.inl ⟨by rfl, ?hy87⟩) hHeld ?hr87
                        case hy87 => (intro W hSw; (try dsimp only at hSw); go_simp; try with_reducible rfl)
                        try simp only [Act.put, List.setIfInBounds_toArray, List.set_cons_zero, List.set_cons_succ]
                        refine wpAnyH_take (i := 27) (oi := ⟨_, _, _, _, _, _⟩) (v := ?hv88) rfl (by kernel_rfl) (by kernel_rfl) (by kernel_rfl) (fun _ _ _ h => h) (Or.inl ⟨by rfl, ?hy88⟩) hHeld ?hr88
                        case hy88 => (intro W hSw; (try dsimp only at hSw); go_simp; try with_reducible rfl)
                        try simp only [Act.put, List.setIfInBounds_toArray, List.set_cons_zero, List.set_cons_succ]
                        refine wpAnyH_take (i := 28) (oi := ⟨_, _, _, _, _, _⟩) (v := ?hv89) rfl (by kernel_rfl) (by kernel_rfl) (by kernel_rfl) (fun _ _ _ h => h) (Or.inl ⟨by rfl, ?hy89⟩) hHeld ?hr89
                        case hy89 => (intro W hSw; (try dsimp only at hSw); go_simp; try with_reducible rfl)
                        try simp only [Act.put, List.setIfInBounds_toArray, List.set_cons_zero, List.set_cons_succ]
                        refine wpAnyH_ready (rs := [25, 29]) (by kernel_rfl) (by simp) ?_
                        refine AllReadyH.cons (o := ⟨_, _, _, _, _, _⟩) rfl (fun K hK => ?hs90) ?hm90
                        case hs90 =>
                          go_simp
                          skip
                          refine hK.out _ _ ?hS90 (fun hHeld => ?hR90)
                          case hS90 => exact KEEP.out _ (y4.alloc y4.size _)
                          clear hK K
                          try simp only [Act.put, List.setIfInBounds_toArray, List.set_cons_zero, List.set_cons_succ]
                          refine wpAnyH_ready (rs := [26, 29]) (by kernel_rfl) (by simp) ?_
                          refine AllReadyH.cons (o := ⟨_, _, _, _, _, _⟩) rfl (fun K hK => ?hs91) ?hm91
                          case hs91 =>
                            go_simp
                            (with_reducible refine (Hc3.out _ _ (World.heap_alloc_new _ _) (y4.alloc y4.size _)).mono ?_)
                            rintro e u5 ⟨rfl, h5⟩
                            have y5 := hop1 y4 y4.size h5
                            go_wp2_with fail
                            refine hK.out _ _ ?hS91 (fun hHeld => ?hR91)
                            case hS91 => exact KEEP.out _ y5
                            clear hK K
                            try simp only [Act.put, List.setIfInBounds_toArray, List.set_cons_zero, List.set_cons_succ]
                            refine wpAnyH_ready (rs := [29]) (by kernel_rfl) (by simp) ?_
                            refine AllReadyH.cons (o := ⟨_, _, _, _, _, _⟩) rfl (fun K hK => ?hs92) ?hm92
                            case hs92 =>
                              go_simp
                              skip
                              refine hK.out _ _ ?hS92 (fun hHeld => ?hR92)
                              case hS92 => exact KEEP.out _ (y5.alloc y5.size _)
                              clear hK K
                              try simp only [Act.put, List.setIfInBounds_toArray, List.set_cons_zero, List.set_cons_succ]
                              refine wpAnyH_ready (rs := [30]) (by kernel_rfl) (by simp) ?_
                              refine AllReadyH.cons (o := ⟨_, _, _, _, _, _⟩) rfl (fun K hK => ?hs93) ?hm93
                              case hs93 =>
                                go_simp
                                (with_reducible refine (Hc2.out _ _ (World.heap_alloc_new _ _) (y5.alloc y5.size _)).mono ?_)
                                rintro e u6 ⟨rfl, h6⟩
                                have y6 := hop1 y5 y5.size h6
                                go_wp2_with fail
                                refine hK.out _ _ ?hS93 (fun hHeld => ?hR93)
                                case hS93 => exact KEEP.out _ y6
                                clear hK K
                                try simp only [Act.put, List.setIfInBounds_toArray, List.set_cons_zero, List.set_cons_succ]
                                refine wpAnyH_take (i := 31) (oi := ⟨_, _, _, _, _, _⟩) (v := ?hv94) rfl (by kernel_rfl) (by kernel_rfl) (by kernel_rfl) (fun _ _ _ h => h) (Or.inl ⟨by rfl, ?hy94⟩) hHeld ?hr94
                                case hy94 => (intro W hSw; (try dsimp only at hSw); go_simp; try with_reducible rfl)
                                try simp only [Act.put, List.setIfInBounds_toArray, List.set_cons_zero, List.set_cons_succ]
                                refine wpAnyH_take (i := 32) (oi := ⟨_, _, _, _, _, _⟩) (v := undef) rfl (by kernel_rfl) (by kernel_rfl) (by kernel_rfl) (fun _ _ _ h => h) (Or.inr ⟨by rfl, rfl⟩) hHeld ?hr95
                                try simp only [Act.put, List.setIfInBounds_toArray, List.set_cons_zero, List.set_cons_succ]
                                refine wpAnyH_take (i := 33) (oi := ⟨_, _, _, _, _, _⟩) (v := undef) rfl (by kernel_rfl) (by kernel_rfl) (by kernel_rfl) (fun _ _ _ h => h) (Or.inr ⟨by rfl, rfl⟩) hHeld ?hr96
                                try simp only [Act.put, List.setIfInBounds_toArray, List.set_cons_zero, List.set_cons_succ]
                                refine wpAnyH_take (i := 34) (oi := ⟨_, _, _, _, _, _⟩) (v := undef) rfl (by kernel_rfl) (by kernel_rfl) (by kernel_rfl) (fun _ _ _ h => h) (Or.inr ⟨by rfl, rfl⟩) hHeld ?hr97
                                try simp only [Act.put, List.setIfInBounds_toArray, List.set_cons_zero, List.set_cons_succ]
                                refine wpAnyH_take (i := 35) (oi := ⟨_, _, _, _, _, _⟩) (v := undef) rfl (by kernel_rfl) (by kernel_rfl) (by kernel_rfl) (fun _ _ _ h => h) (Or.inr ⟨by rfl, rfl⟩) hHeld ?hr98
                                try simp only [Act.put, List.setIfInBounds_toArray, List.set_cons_zero, List.set_cons_succ]
                                refine wpAnyH_take (i := 36) (oi := ⟨_, _, _, _, _, _⟩) (v := ?hv99) rfl (by kernel_rfl) (by kernel_rfl) (by kernel_rfl) (fun _ _ _ h => h) (Or.inl ⟨by rfl, ?hy99⟩) hHeld ?hr99
                                case hy99 => (intro W hSw; (try dsimp only at hSw); go_simp; try with_reducible rfl)
                                try simp only [Act.put, List.setIfInBounds_toArray, List.set_cons_zero, List.set_cons_succ]
                                refine wpAnyH_take (i := 37) (oi := ⟨_, _, _, _, _, _⟩) (v := ?hv100) rfl (by kernel_rfl) (by kernel_rfl) (by kernel_rfl) (fun _ _ _ h => h) (Or.inl ⟨by rfl, ?hy100⟩) hHeld ?hr100
                                case hy100 => (intro W hSw; (try dsimp only at hSw); go_simp; try with_reducible rfl)
                                try simp only [Act.put, List.setIfInBounds_toArray, List.set_cons_zero, List.set_cons_succ]
                                refine wpAnyH_take (i := 38) (oi := ⟨_, _, _, _, _, _⟩) (v := ?hv101) rfl (by kernel_rfl) (by kernel_rfl) (by kernel_rfl) (fun _ _ _ h => h) (Or.inl ⟨by rfl, ?hy101⟩) hHeld ?hr101
                                case hy101 => (intro W hSw; (try dsimp only at hSw); go_simp; try with_reducible rfl)
                                try simp only [Act.put, List.setIfInBounds_toArray, List.set_cons_zero, List.set_cons_succ]
                                refine wpAnyH_done (by kernel_rfl) ?_ _
                                go_wp2_with fail
                                go_meet
                                exact ⟨rfl, y6⟩
                              case hm93 => exact AllReadyH.nil
                            case hm92 => exact AllReadyH.nil
                          case hm91 =>
                            refine AllReadyH.cons (o := ⟨_, _, _, _, _, _⟩) rfl (fun K hK => ?hs102) ?hm102
                            case hs102 =>
                              go_simp
                              skip
                              refine hK.out _ _ ?hS102 (fun hHeld => ?hR102)
                              case hS102 => exact KEEP.out _ (al2 y4 y4.size)
                              clear hK K
                              try simp only [Act.put, List.setIfInBounds_toArray, List.set_cons_zero, List.set_cons_succ]
                              refine wpAnyH_ready (rs := [26]) (by kernel_rfl) (by simp) ?_
                              refine AllReadyH.cons (o := ⟨_, _, _, _, _, _⟩) rfl (fun K hK => ?hs103) ?hm103
                              case hs103 =>
                                go_simp
                                (with_reducible refine (Hc3.out _ _ (heap_alloc2_old _ _ _) (al2 y4 y4.size)).mono ?_)
                                rintro e u5 ⟨rfl, h5⟩
                                have z5 := below_same h5 (heap_alloc2_new _ _ _)
                                have y5 := hop2 y4 y4.size h5
                                go_wp2_with fail
                                refine hK.out _ _ ?hS103 (fun hHeld => ?hR103)
                                case hS103 => exact KEEP.out _ y5
                                clear hK K
                                try simp only [Act.put, List.setIfInBounds_toArray, List.set_cons_zero, List.set_cons_succ]
                                refine wpAnyH_ready (rs := [30]) (by kernel_rfl) (by simp) ?_
                                refine AllReadyH.cons (o := ⟨_, _, _, _, _, _⟩) rfl (fun K hK => ?hs104) ?hm104
                                case hs104 =>
                                  go_simp
                                  (with_reducible refine (Hc2.out _ _ z5 y5).mono ?_)
                                  rintro e u6 ⟨rfl, h6⟩
                                  have y6 := y5.trans (h6.mono y5.size)
                                  go_wp2_with fail
                                  refine hK.out _ _ ?hS104 (fun hHeld => ?hR104)
                                  case hS104 => exact KEEP.out _ y6
                                  clear hK K
                                  try simp only [Act.put, List.setIfInBounds_toArray, List.set_cons_zero, List.set_cons_succ]
                                  refine wpAnyH_take (i := 31) (oi := ⟨_, _, _, _, _, _⟩) (v := ?hv105) rfl (by kernel_rfl) (by kernel_rfl) (by kernel_rfl) (fun _ _ _ h => h) (Or.inl ⟨by rfl, ?hy105⟩) hHeld ?hr105
                                  case hy105 => (intro W hSw; (try dsimp only at hSw); go_simp; try with_reducible rfl)
                                  try simp only [Act.put, List.setIfInBounds_toArray, List.set_cons_zero, List.set_cons_succ]
                                  refine wpAnyH_take (i := 32) (oi := ⟨_, _, _, _, _, _⟩) (v := undef) rfl (by kernel_rfl) (by kernel_rfl) (by kernel_rfl) (fun _ _ _ h => h) (Or.inr ⟨by rfl, rfl⟩) hHeld ?hr106
                                  try simp only [Act.put, List.setIfInBounds_toArray, List.set_cons_zero, List.set_cons_succ]
                                  refine wpAnyH_take (i := 33) (oi := ⟨_, _, _, _, _, _⟩) (v := undef) rfl (by kernel_rfl) (by kernel_rfl) (by kernel_rfl) (fun _ _ _ h => h) (Or.inr ⟨by rfl, rfl⟩) hHeld ?hr107
                                  try simp only [Act.put, List.setIfInBounds_toArray, List.set_cons_zero, List.set_cons_succ]
                                  refine wpAnyH_take (i := 34) (oi := ⟨_, _, _, _, _, _⟩) (v := undef) rfl (by kernel_rfl) (by kernel_rfl) (by kernel_rfl) (fun _ _ _ h => h) (Or.inr ⟨by rfl, rfl⟩) hHeld ?hr108
                                  try simp only [Act.put, List.setIfInBounds_toArray, List.set_cons_zero, List.set_cons_succ]
                                  refine wpAnyH_take (i := 35) (oi := ⟨_, _, _, _, _, _⟩) (v := undef) rfl (by kernel_rfl) (by kernel_rfl) (by kernel_rfl) (fun _ _ _ h => h) (Or.inr ⟨by rfl, rfl⟩) hHeld ?hr109
                                  try simp only [Act.put, List.setIfInBounds_toArray, List.set_cons_zero, List.set_cons_succ]
                                  refine wpAnyH_take (i := 36) (oi := ⟨_, _, _, _, _, _⟩) (v := ?hv110) rfl (by kernel_rfl) (by kernel_rfl) (by kernel_rfl) (fun _ _ _ h => h) (Or.inl ⟨by rfl, ?hy110⟩) hHeld ?hr110
                                  case hy110 => (intro W hSw; (try dsimp only at hSw); go_simp; try with_reducible rfl)
                                  try simp only [Act.put, List.setIfInBounds_toArray, List.set_cons_zero, List.set_cons_succ]
                                  refine wpAnyH_take (i := 37) (oi := ⟨_, _, _, _, _, _⟩) (v := ?hv111) rfl (by kernel_rfl) (by kernel_rfl) (by kernel_rfl) (fun _ _ _ h => h) (Or.inl ⟨by rfl, ?hy111⟩) hHeld ?hr111
                                  case hy111 => (intro W hSw; (try dsimp only at hSw); go_simp; try with_reducible rfl)
                                  try simp only [Act.put, List.setIfInBounds_toArray, List.set_cons_zero, List.set_cons_succ]
                                  refine wpAnyH_take (i := 38) (oi := ⟨_, _, _, _, _, _⟩) (v := ?hv112) rfl (by kernel_rfl) (by kernel_rfl) (by kernel_rfl) (fun _ _ _ h => h) (Or.inl ⟨by rfl, ?hy112⟩) hHeld ?hr112
                                  case hy112 => (intro W hSw; (try dsimp only at hSw); go_simp; try with_reducible rfl)
                                  try simp only [Act.put, List.setIfInBounds_toArray, List.set_cons_zero, List.set_cons_succ]
                                  refine wpAnyH_done (by kernel_rfl) ?_ _
                                  go_wp2_with fail
                                  go_meet
                                  exact ⟨rfl, y6⟩
                                case hm104 => exact AllReadyH.nil
                              case hm103 => exact AllReadyH.nil
                            case hm102 => exact AllReadyH.nil
                        case hm90 =>
                          refine AllReadyH.cons (o := ⟨_, _, _, _, _, _⟩) rfl (fun K hK => ?hs113) ?hm113
                          case hs113 =>
                            go_simp
                            skip
                            refine hK.out _ _ ?hS113 (fun hHeld => ?hR113)
                            case hS113 => exact KEEP.out _ (y4.alloc y4.size _)
                            clear hK K
                            try simp only [Act.put, List.setIfInBounds_toArray, List.set_cons_zero, List.set_cons_succ]
                            refine wpAnyH_ready (rs := [25]) (by kernel_rfl) (by simp) ?_
                            refine AllReadyH.cons (o := ⟨_, _, _, _, _, _⟩) rfl (fun K hK => ?hs114) ?hm114
                            case hs114 =>
                              go_simp
                              skip
                              refine hK.out _ _ ?hS114 (fun hHeld => ?hR114)
                              case hS114 => exact KEEP.out _ (al2 y4 y4.size)
                              clear hK K
                              try simp only [Act.put, List.setIfInBounds_toArray, List.set_cons_zero, List.set_cons_succ]
                              refine wpAnyH_ready (rs := [26]) (by kernel_rfl) (by simp) ?_
                              refine AllReadyH.cons (o := ⟨_, _, _, _, _, _⟩) rfl (fun K hK => ?hs115) ?hm115
                              case hs115 =>
                                go_simp
                                (with_reducible refine (Hc3.out _ _ (heap_alloc2_new _ _ _) (al2 y4 y4.size)).mono ?_)
                                rintro e u5 ⟨rfl, h5⟩
                                have z5 := below_same h5 (heap_alloc2_old _ _ _)
                                have y5 := hop2 y4 y4.size h5
                                go_wp2_with fail
                                refine hK.out _ _ ?hS115 (fun hHeld => ?hR115)
                                case hS115 => exact KEEP.out _ y5
                                clear hK K
                                try simp only [Act.put, List.setIfInBounds_toArray, List.set_cons_zero, List.set_cons_succ]
                                refine wpAnyH_ready (rs := [30]) (by kernel_rfl) (by simp) ?_
                                refine AllReadyH.cons (o := ⟨_, _, _, _, _, _⟩) rfl (fun K hK => ?hs116) ?hm116
                                case hs116 =>
                                  go_simp
                                  (with_reducible refine (Hc2.out _ _ z5 y5).mono ?_)
                                  rintro e u6 ⟨rfl, h6⟩
                                  have y6 := y5.trans (h6.mono y5.size)
                                  go_wp2_with fail
                                  refine hK.out _ _ ?hS116 (fun hHeld => ?hR116)
                                  case hS116 => exact KEEP.out _ y6
                                  clear hK K
                                  try simp only [Act.put, List.setIfInBounds_toArray, List.set_cons_zero, List.set_cons_succ]
                                  refine wpAnyH_take (i := 31) (oi := ⟨_, _, _, _, _, _⟩) (v := ?hv117) rfl (by kernel_rfl) (by kernel_rfl) (by kernel_rfl) (fun _ _ _ h => h) (Or.inl ⟨by rfl, ?hy117⟩) hHeld ?hr117
                                  case hy117 => (intro W hSw; (try dsimp only at hSw); go_simp; try with_reducible rfl)
                                  try simp only [Act.put, List.setIfInBounds_toArray, List.set_cons_zero, List.set_cons_succ]
                                  refine wpAnyH_take (i := 32) (oi := ⟨_, _, _, _, _, _⟩) (v := undef) rfl (by kernel_rfl) (by kernel_rfl) (by kernel_rfl) (fun _ _ _ h => h) (Or.inr ⟨by rfl, rfl⟩) hHeld ?hr118
                                  try simp only [Act.put, List.setIfInBounds_toArray, List.set_cons_zero, List.set_cons_succ]
                                  refine wpAnyH_take (i := 33) (oi := ⟨_, _, _, _, _, _⟩) (v := undef) rfl (by kernel_rfl) (by kernel_rfl) (by kernel_rfl) (fun _ _ _ h => h) (Or.inr ⟨by rfl, rfl⟩) hHeld ?hr119
                                  try simp only [Act.put, List.setIfInBounds_toArray, List.set_cons_zero, List.set_cons_succ]
                                  refine wpAnyH_take (i := 34) (oi := ⟨_, _, _, _, _, _⟩) (v := undef) rfl (by kernel_rfl) (by kernel_rfl) (by kernel_rfl) (fun _ _ _ h => h) (Or.inr ⟨by rfl, rfl⟩) hHeld ?hr120
                                  try simp only [Act.put, List.setIfInBounds_toArray, List.set_cons_zero, List.set_cons_succ]
                                  refine wpAnyH_take (i := 35) (oi := ⟨_, _, _, _, _, _⟩) (v := undef) rfl (by kernel_rfl) (by kernel_rfl) (by kernel_rfl) (fun _ _ _ h => h) (Or.inr ⟨by rfl, rfl⟩) hHeld ?hr121
                                  try simp only [Act.put, List.setIfInBounds_toArray, List.set_cons_zero, List.set_cons_succ]
                                  refine wpAnyH_take (i := 36) (oi := ⟨_, _, _, _, _, _⟩) (v := ?hv122) rfl (by kernel_rfl) (by kernel_rfl) (by kernel_rfl) (fun _ _ _ h => h) (Or.inl ⟨by rfl, ?hy122⟩) hHeld ?hr122
                                  case hy122 => (intro W hSw; (try dsimp only at hSw); go_simp; try with_reducible rfl)
                                  try simp only [Act.put, List.setIfInBounds_toArray, List.set_cons_zero, List.set_cons_succ]
                                  refine wpAnyH_take (i := 37) (oi := ⟨_, _, _, _, _, _⟩) (v := ?hv123) rfl (by kernel_rfl) (by kernel_rfl) (by kernel_rfl) (fun _ _ _ h => h) (Or.inl ⟨by rfl, ?hy123⟩) hHeld ?hr123
                                  case hy123 => (intro W hSw; (try dsimp only at hSw); go_simp; try with_reducible rfl)
                                  try simp only [Act.put, List.setIfInBounds_toArray, List.set_cons_zero, List.set_cons_succ]
                                  refine wpAnyH_take (i := 38) (oi := ⟨_, _, _, _, _, _⟩) (v := ?hv124) rfl (by kernel_rfl) (by kernel_rfl) (by kernel_rfl) (fun _ _ _ h => h) (Or.inl ⟨by rfl, ?hy124⟩) hHeld ?hr124
                                  case hy124 => (intro W hSw; (try dsimp only at hSw); go_simp; try with_reducible rfl)
                                  try simp only [Act.put, List.setIfInBounds_toArray, List.set_cons_zero, List.set_cons_succ]
                                  refine wpAnyH_done (by kernel_rfl) ?_ _
                                  go_wp2_with fail
                                  go_meet
                                  exact ⟨rfl, y6⟩
                                case hm116 => exact AllReadyH.nil
                              case hm115 => exact AllReadyH.nil
                            case hm114 => exact AllReadyH.nil
                          case hm113 => exact AllReadyH.nil
                      case hm81 => exact AllReadyH.nil
                    case hm80 => exact AllReadyH.nil
                  case hm79 => exact AllReadyH.nil
                case hm70 => exact AllReadyH.nil
              case hm69 => exact AllReadyH.nil
            case hm68 => exact AllReadyH.nil
      case rest =>
        obtain ⟨rfl, y⟩ := hcut
        clear Hc1 Hc2 Hc3 HH1 HH2
        go_upto_region 13 with fail
        go_cut [117] (fun s117 wx => s117 = .bool false ∧ Below w1.heap.size w1 wx)
        case first =>
          rcases Int.lt_trichotomy x.day (q : Int) with hd | hd | hd
          · have dB : ∀ (W : World) (g : Nat), W.heap[g]? = some (.cells #[.string ⟨#[66, 69, 70, 79, 82, 69]⟩, .string ⟨D.toArray⟩] 9 (0, 0)) → Below w1.heap.size w1 W → Calls Tryz.prog 8 #[.slice (some ⟨g, 0, none⟩) 2 2, .pointer (some ⟨w.heap.size, 0, none⟩), .pointer (some ⟨w.heap.size + 1, 0, none⟩), .pointer (some ⟨w.heap.size + 2, 0, none⟩), .pointer (some ⟨w.heap.size + 3, 0, none⟩)] W fun e w' => e = .returned (.bool true) ∧ Below W.heap.size W w' := fun W g hg hW => by
              have hr := hearN_any x fv HLF.out HX.out (.slice (some ⟨g, 0, none⟩) 2 2) [[66, 69, 70, 79, 82, 69], D] w.heap.size (w.heap.size + 1) (w.heap.size + 2) (w.heap.size + 3) W (HW.out W hW) (srow_block (ts := [[66, 69, 70, 79, 82, 69], D]) hg rfl 2 rfl) (by simp) (fun t ht => by
                simp only [List.mem_cons, List.not_mem_nil, or_false] at ht
                rcases ht with rfl | rfl <;> first | exact HSL.out | exact HDL.out | (simp; done))
              rw [show [[66, 69, 70, 79, 82, 69], D].map atomW = [atomW [66, 69, 70, 79, 82, 69], atomW D] from rfl, HG1.out.trans (decide_eq_true (by omega))] at hr
              exact hr
            have HdB := Lib.hid dB
            clear dB
            have dS : ∀ (W : World) (g : Nat), W.heap[g]? = some (.cells #[.string ⟨#[83, 73, 78, 67, 69]⟩, .string ⟨D.toArray⟩] 9 (0, 0)) → Below w1.heap.size w1 W → Calls Tryz.prog 8 #[.slice (some ⟨g, 0, none⟩) 2 2, .pointer (some ⟨w.heap.size, 0, none⟩), .pointer (some ⟨w.heap.size + 1, 0, none⟩), .pointer (some ⟨w.heap.size + 2, 0, none⟩), .pointer (some ⟨w.heap.size + 3, 0, none⟩)] W fun e w' => e = .returned (.bool false) ∧ Below W.heap.size W w' := fun W g hg hW => by
              have hr := hearN_any x fv HLF.out HX.out (.slice (some ⟨g, 0, none⟩) 2 2) [[83, 73, 78, 67, 69], D] w.heap.size (w.heap.size + 1) (w.heap.size + 2) (w.heap.size + 3) W (HW.out W hW) (srow_block (ts := [[83, 73, 78, 67, 69], D]) hg rfl 2 rfl) (by simp) (fun t ht => by
                simp only [List.mem_cons, List.not_mem_nil, or_false] at ht
                rcases ht with rfl | rfl <;> first | exact HSL.out | exact HDL.out | (simp; done))
              rw [show [[83, 73, 78, 67, 69], D].map atomW = [atomW [83, 73, 78, 67, 69], atomW D] from rfl, HG2.out.trans (decide_eq_false (by omega))] at hr
              exact hr
            have HdS := Lib.hid dS
            clear dS
            have dO : ∀ (W : World) (g : Nat), W.heap[g]? = some (.cells #[.string ⟨#[79, 78]⟩, .string ⟨D.toArray⟩] 9 (0, 0)) → Below w1.heap.size w1 W → Calls Tryz.prog 8 #[.slice (some ⟨g, 0, none⟩) 2 2, .pointer (some ⟨w.heap.size, 0, none⟩), .pointer (some ⟨w.heap.size + 1, 0, none⟩), .pointer (some ⟨w.heap.size + 2, 0, none⟩), .pointer (some ⟨w.heap.size + 3, 0, none⟩)] W fun e w' => e = .returned (.bool false) ∧ Below W.heap.size W w' := fun W g hg hW => by
              have hr := hearN_any x fv HLF.out HX.out (.slice (some ⟨g, 0, none⟩) 2 2) [[79, 78], D] w.heap.size (w.heap.size + 1) (w.heap.size + 2) (w.heap.size + 3) W (HW.out W hW) (srow_block (ts := [[79, 78], D]) hg rfl 2 rfl) (by simp) (fun t ht => by
                simp only [List.mem_cons, List.not_mem_nil, or_false] at ht
                rcases ht with rfl | rfl <;> first | exact HSL.out | exact HDL.out | (simp; done))
              rw [show [[79, 78], D].map atomW = [atomW [79, 78], atomW D] from rfl, HG3.out.trans (decide_eq_false (by omega))] at hr
              exact hr
            have HdO := Lib.hid dO
            clear dO
            have e1 : decide (x.day = (q : Int)) = false := decide_eq_false (by omega)
            have e2 : (x.day == (q : Int)) = false := by rw [beq_eq_false_iff_ne]; omega
            clear hd
            as_aux_lemma =>
              have yd := y.drew
              refine wp_region_held_drew (S := fun W => W.cell? ⟨w.heap.size + 1, 0, none⟩ = some (.int .i64 x.which) ∧ W.cell? ⟨w.heap.size + 2, 0, none⟩ = some (.int .i64 x.many) ∧ W.cell? ⟨w.heap.size, 0, none⟩ = some (.int .i64 x.uid) ∧ W.cell? ⟨w.heap.size + 3, 0, none⟩ = some (.int .i64 x.greatest) ∧ W.cell? ⟨w.heap.size, 2, none⟩ = some (.int .i64 x.day) ∧ W.cell? ⟨w.heap.size, 3, none⟩ = some (.string ⟨x.text.toArray⟩)) (by kernel_rfl) (KEEP.out _ yd) (fun hHeld => ?_)
              generalize wc.drew = wd at *
              refine wpAnyH_take (i := 0) (oi := ⟨_, _, _, _, _, _⟩) (v := ?hv125) rfl (by kernel_rfl) (by kernel_rfl) (by kernel_rfl) (fun _ _ _ h => h) (Or.inl ⟨by rfl, ?hy125⟩) hHeld ?hr125
              case hy125 => (intro W hSw; (try dsimp only at hSw); go_simp; try with_reducible rfl)
              try simp only [Act.put, List.setIfInBounds_toArray, List.set_cons_zero, List.set_cons_succ]
              refine wpAnyH_take (i := 1) (oi := ⟨_, _, _, _, _, _⟩) (v := ?hv126) rfl (by kernel_rfl) (by kernel_rfl) (by kernel_rfl) (fun _ _ _ h => h) (Or.inl ⟨by rfl, ?hy126⟩) hHeld ?hr126
              case hy126 => (intro W hSw; (try dsimp only at hSw); go_simp; try with_reducible rfl)
              try simp only [Act.put, List.setIfInBounds_toArray, List.set_cons_zero, List.set_cons_succ]
              refine wpAnyH_take (i := 4) (oi := ⟨_, _, _, _, _, _⟩) (v := ?hv127) rfl (by kernel_rfl) (by kernel_rfl) (by kernel_rfl) (fun _ _ _ h => h) (Or.inl ⟨by rfl, ?hy127⟩) hHeld ?hr127
              case hy127 => (intro W hSw; (try dsimp only at hSw); go_simp; try with_reducible rfl)
              try simp only [Act.put, List.setIfInBounds_toArray, List.set_cons_zero, List.set_cons_succ]
              refine wpAnyH_take (i := 5) (oi := ⟨_, _, _, _, _, _⟩) (v := ?hv128) rfl (by kernel_rfl) (by kernel_rfl) (by kernel_rfl) (fun _ _ _ h => h) (Or.inl ⟨by rfl, ?hy128⟩) hHeld ?hr128
              case hy128 => (intro W hSw; (try dsimp only at hSw); go_simp; try with_reducible rfl)
              try simp only [Act.put, List.setIfInBounds_toArray, List.set_cons_zero, List.set_cons_succ]
              refine wpAnyH_ready (rs := [2, 6]) (by kernel_rfl) (by simp) ?_
              refine AllReadyH.cons (o := ⟨_, _, _, _, _, _⟩) rfl (fun K hK => ?hs129) ?hm129
              case hs129 =>
                go_simp
                skip
                refine hK.out _ _ ?hS129 (fun hHeld => ?hR129)
                case hS129 => exact KEEP.out _ (yd.alloc yd.size _)
                clear hK K
                try simp only [Act.put, List.setIfInBounds_toArray, List.set_cons_zero, List.set_cons_succ]
                refine wpAnyH_ready (rs := [3, 6]) (by kernel_rfl) (by simp) ?_
                refine AllReadyH.cons (o := ⟨_, _, _, _, _, _⟩) rfl (fun K hK => ?hs130) ?hm130
                case hs130 =>
                  go_simp
                  (with_reducible refine (HdB.out _ _ (World.heap_alloc_new _ _) (yd.alloc yd.size _)).mono ?_)
                  rintro e u1 ⟨rfl, h1⟩
                  have y1 := hop1 yd yd.size h1
                  go_wp2_with fail
                  refine hK.out _ _ ?hS130 (fun hHeld => ?hR130)
                  case hS130 => exact KEEP.out _ y1
                  clear hK K
                  try simp only [Act.put, List.setIfInBounds_toArray, List.set_cons_zero, List.set_cons_succ]
                  refine wpAnyH_ready (rs := [6]) (by kernel_rfl) (by simp) ?_
                  refine AllReadyH.cons (o := ⟨_, _, _, _, _, _⟩) rfl (fun K hK => ?hs131) ?hm131
                  case hs131 =>
                    go_simp
                    skip
                    refine hK.out _ _ ?hS131 (fun hHeld => ?hR131)
                    case hS131 => exact KEEP.out _ (y1.alloc y1.size _)
                    clear hK K
                    try simp only [Act.put, List.setIfInBounds_toArray, List.set_cons_zero, List.set_cons_succ]
                    refine wpAnyH_ready (rs := [7]) (by kernel_rfl) (by simp) ?_
                    refine AllReadyH.cons (o := ⟨_, _, _, _, _, _⟩) rfl (fun K hK => ?hs132) ?hm132
                    case hs132 =>
                      go_simp
                      (with_reducible refine (HdS.out _ _ (World.heap_alloc_new _ _) (y1.alloc y1.size _)).mono ?_)
                      rintro e u2 ⟨rfl, h2⟩
                      have y2 := hop1 y1 y1.size h2
                      go_wp2_with fail
                      refine hK.out _ _ ?hS132 (fun hHeld => ?hR132)
                      case hS132 => exact KEEP.out _ y2
                      clear hK K
                      try simp only [Act.put, List.setIfInBounds_toArray, List.set_cons_zero, List.set_cons_succ]
                      refine wpAnyH_take (i := 8) (oi := ⟨_, _, _, _, _, _⟩) (v := ?hv133) rfl (by kernel_rfl) (by kernel_rfl) (by kernel_rfl) (fun _ _ _ h => h) (Or.inl ⟨by rfl, ?hy133⟩) hHeld ?hr133
                      case hy133 => (intro W hSw; (try dsimp only at hSw); go_simp; try with_reducible rfl)
                      try simp only [Act.put, List.setIfInBounds_toArray, List.set_cons_zero, List.set_cons_succ]
                      refine wpAnyH_take (i := 9) (oi := ⟨_, _, _, _, _, _⟩) (v := ?hv134) rfl (by kernel_rfl) (by kernel_rfl) (by kernel_rfl) (fun _ _ _ h => h) (Or.inl ⟨by rfl, ?hy134⟩) hHeld ?hr134
                      case hy134 => (intro W hSw; (try dsimp only at hSw); go_simp; try with_reducible rfl)
                      try simp only [Act.put, List.setIfInBounds_toArray, List.set_cons_zero, List.set_cons_succ]
                      refine wpAnyH_take (i := 10) (oi := ⟨_, _, _, _, _, _⟩) (v := ?hv135) rfl (by kernel_rfl) (by kernel_rfl) (by kernel_rfl) (fun _ _ _ h => h) (Or.inl ⟨by rfl, ?hy135⟩) hHeld ?hr135
                      case hy135 => (intro W hSw; (try dsimp only at hSw); go_simp; try with_reducible rfl)
                      try simp only [Act.put, List.setIfInBounds_toArray, List.set_cons_zero, List.set_cons_succ]
                      refine wpAnyH_take (i := 11) (oi := ⟨_, _, _, _, _, _⟩) (v := ?hv136) rfl (by kernel_rfl) (by kernel_rfl) (by kernel_rfl) (fun _ _ _ h => h) (Or.inl ⟨by rfl, ?hy136⟩) hHeld ?hr136
                      case hy136 => (intro W hSw; (try dsimp only at hSw); go_simp; try with_reducible rfl)
                      try simp only [Act.put, List.setIfInBounds_toArray, List.set_cons_zero, List.set_cons_succ]
                      refine wpAnyH_ready (rs := [12]) (by kernel_rfl) (by simp) ?_
                      refine AllReadyH.cons (o := ⟨_, _, _, _, _, _⟩) rfl (fun K hK => ?hs137) ?hm137
                      case hs137 =>
                        go_simp
                        skip
                        refine hK.out _ _ ?hS137 (fun hHeld => ?hR137)
                        case hS137 => exact KEEP.out _ (y2.alloc y2.size _)
                        clear hK K
                        try simp only [Act.put, List.setIfInBounds_toArray, List.set_cons_zero, List.set_cons_succ]
                        refine wpAnyH_ready (rs := [13]) (by kernel_rfl) (by simp) ?_
                        refine AllReadyH.cons (o := ⟨_, _, _, _, _, _⟩) rfl (fun K hK => ?hs138) ?hm138
                        case hs138 =>
                          go_simp
                          (with_reducible refine (HdO.out _ _ (World.heap_alloc_new _ _) (y2.alloc y2.size _)).mono ?_)
                          rintro e u3 ⟨rfl, h3⟩
                          have y3 := hop1 y2 y2.size h3
                          go_wp2_with fail
                          refine hK.out _ _ ?hS138 (fun hHeld => ?hR138)
                          case hS138 => exact KEEP.out _ y3
                          clear hK K
                          try simp only [Act.put, List.setIfInBounds_toArray, List.set_cons_zero, List.set_cons_succ]
                          refine wpAnyH_take (i := 14) (oi := ⟨_, _, _, _, _, _⟩) (v := ?hv139) rfl (by kernel_rfl) (by kernel_rfl) (by kernel_rfl) (fun _ _ _ h => h) (Or.inl ⟨by rfl, ?hy139⟩) hHeld ?hr139
                          case hy139 => (intro W hSw; (try dsimp only at hSw); go_simp; try with_reducible rfl)
                          try simp only [Act.put, List.setIfInBounds_toArray, List.set_cons_zero, List.set_cons_succ]
                          refine wpAnyH_take (i := 15) (oi := ⟨_, _, _, _, _, _⟩) (v := undef) rfl (by kernel_rfl) (by kernel_rfl) (by kernel_rfl) (fun _ _ _ h => h) (Or.inr ⟨by rfl, rfl⟩) hHeld ?hr140
                          try simp only [Act.put, List.setIfInBounds_toArray, List.set_cons_zero, List.set_cons_succ]
                          refine wpAnyH_take (i := 16) (oi := ⟨_, _, _, _, _, _⟩) (v := undef) rfl (by kernel_rfl) (by kernel_rfl) (by kernel_rfl) (fun _ _ _ h => h) (Or.inr ⟨by rfl, rfl⟩) hHeld ?hr141
                          try simp only [Act.put, List.setIfInBounds_toArray, List.set_cons_zero, List.set_cons_succ]
                          refine wpAnyH_take (i := 17) (oi := ⟨_, _, _, _, _, _⟩) (v := undef) rfl (by kernel_rfl) (by kernel_rfl) (by kernel_rfl) (fun _ _ _ h => h) (Or.inr ⟨by rfl, rfl⟩) hHeld ?hr142
                          try simp only [Act.put, List.setIfInBounds_toArray, List.set_cons_zero, List.set_cons_succ]
                          refine wpAnyH_take (i := 18) (oi := ⟨_, _, _, _, _, _⟩) (v := undef) rfl (by kernel_rfl) (by kernel_rfl) (by kernel_rfl) (fun _ _ _ h => h) (Or.inr ⟨by rfl, rfl⟩) hHeld ?hr143
                          try simp only [Act.put, List.setIfInBounds_toArray, List.set_cons_zero, List.set_cons_succ]
                          refine wpAnyH_take (i := 19) (oi := ⟨_, _, _, _, _, _⟩) (v := undef) rfl (by kernel_rfl) (by kernel_rfl) (by kernel_rfl) (fun _ _ _ h => h) (Or.inr ⟨by rfl, rfl⟩) hHeld ?hr144
                          try simp only [Act.put, List.setIfInBounds_toArray, List.set_cons_zero, List.set_cons_succ]
                          refine wpAnyH_take (i := 20) (oi := ⟨_, _, _, _, _, _⟩) (v := ?hv145) rfl (by kernel_rfl) (by kernel_rfl) (by kernel_rfl) (fun _ _ _ h => h) (Or.inl ⟨by rfl, ?hy145⟩) hHeld ?hr145
                          case hy145 => (intro W hSw; (try dsimp only at hSw); go_simp; try with_reducible rfl)
                          try simp only [Act.put, List.setIfInBounds_toArray, List.set_cons_zero, List.set_cons_succ]
                          refine wpAnyH_take (i := 21) (oi := ⟨_, _, _, _, _, _⟩) (v := ?hv146) rfl (by kernel_rfl) (by kernel_rfl) (by kernel_rfl) (fun _ _ _ h => h) (Or.inl ⟨by rfl, ?hy146⟩) hHeld ?hr146
                          case hy146 => (intro W hSw; (try dsimp only at hSw); go_simp; try with_reducible rfl)
                          try simp only [Act.put, List.setIfInBounds_toArray, List.set_cons_zero, List.set_cons_succ]
                          refine wpAnyH_take (i := 22) (oi := ⟨_, _, _, _, _, _⟩) (v := ?hv147) rfl (by kernel_rfl) (by kernel_rfl) (by kernel_rfl) (fun _ _ _ h => h) (Or.inl ⟨by rfl, ?hy147⟩) hHeld ?hr147
                          case hy147 => (intro W hSw; (try dsimp only at hSw); go_simp; try with_reducible rfl)
                          try simp only [Act.put, List.setIfInBounds_toArray, List.set_cons_zero, List.set_cons_succ]
                          refine wpAnyH_take (i := 23) (oi := ⟨_, _, _, _, _, _⟩) (v := ?hv148) rfl (by kernel_rfl) (by kernel_rfl) (by kernel_rfl) (fun _ _ _ h => h) (Or.inl ⟨by rfl, ?hy148⟩) hHeld ?hr148
                          case hy148 => (intro W hSw; (try dsimp only at hSw); go_simp; try with_reducible rfl)
                          try simp only [Act.put, List.setIfInBounds_toArray, List.set_cons_zero, List.set_cons_succ]
                          refine wpAnyH_take (i := 24) (oi := ⟨_, _, _, _, _, _⟩) (v := ?hv149) rfl (by kernel_rfl) (by kernel_rfl) (by kernel_rfl) (fun _ _ _ h => h) (Or.inl ⟨by rfl, ?hy149⟩) hHeld ?hr149
                          case hy149 => (intro W hSw; (try dsimp only at hSw); go_simp; try with_reducible rfl)
                          try simp only [Act.put, List.setIfInBounds_toArray, List.set_cons_zero, List.set_cons_succ]
                          refine wpAnyH_take (i := 27) (oi := ⟨_, _, _, _, _, _⟩) (v := ?hv150) rfl (by kernel_rfl) (by kernel_rfl) (by kernel_rfl) (fun _ _ _ h => h) (Or.inl ⟨by rfl, ?hy150⟩) hHeld ?hr150
                          case hy150 => (intro W hSw; (try dsimp only at hSw); go_simp; try with_reducible rfl)
                          try simp only [Act.put, List.setIfInBounds_toArray, List.set_cons_zero, List.set_cons_succ]
                          refine wpAnyH_take (i := 28) (oi := ⟨_, _, _, _, _, _⟩) (v := ?hv151) rfl (by kernel_rfl) (by kernel_rfl) (by kernel_rfl) (fun _ _ _ h => h) (Or.inl ⟨by rfl, ?hy151⟩) hHeld ?hr151
                          case hy151 => (intro W hSw; (try dsimp only at hSw); go_simp; try with_reducible rfl)
                          try simp only [Act.put, List.setIfInBounds_toArray, List.set_cons_zero, List.set_cons_succ]
                          refine wpAnyH_take (i := 29) (oi := ⟨_, _, _, _, _, _⟩) (v := ?hv152) rfl (by kernel_rfl) (by kernel_rfl) (by kernel_rfl) (fun _ _ _ h => h) (Or.inl ⟨by rfl, ?hy152⟩) hHeld ?hr152
                          case hy152 => (intro W hSw; (try dsimp only at hSw); go_simp; try with_reducible rfl)
                          try simp only [Act.put, List.setIfInBounds_toArray, List.set_cons_zero, List.set_cons_succ]
                          refine wpAnyH_take (i := 30) (oi := ⟨_, _, _, _, _, _⟩) (v := ?hv153) rfl (by kernel_rfl) (by kernel_rfl) (by kernel_rfl) (fun _ _ _ h => h) (Or.inl ⟨by rfl, ?hy153⟩) hHeld ?hr153
                          case hy153 => (intro W hSw; (try dsimp only at hSw); go_simp; try with_reducible rfl)
                          try simp only [Act.put, List.setIfInBounds_toArray, List.set_cons_zero, List.set_cons_succ]
                          refine wpAnyH_ready (rs := [25]) (by kernel_rfl) (by simp) ?_
                          refine AllReadyH.cons (o := ⟨_, _, _, _, _, _⟩) rfl (fun K hK => ?hs154) ?hm154
                          case hs154 =>
                            go_simp
                            skip
                            refine hK.out _ _ ?hS154 (fun hHeld => ?hR154)
                            case hS154 => exact KEEP.out _ (y3.alloc y3.size _)
                            clear hK K
                            try simp only [Act.put, List.setIfInBounds_toArray, List.set_cons_zero, List.set_cons_succ]
                            refine wpAnyH_ready (rs := [26]) (by kernel_rfl) (by simp) ?_
                            refine AllReadyH.cons (o := ⟨_, _, _, _, _, _⟩) rfl (fun K hK => ?hs155) ?hm155
                            case hs155 =>
                              go_simp
                              (with_reducible refine (HdO.out _ _ (World.heap_alloc_new _ _) (y3.alloc y3.size _)).mono ?_)
                              rintro e u4 ⟨rfl, h4⟩
                              have y4 := hop1 y3 y3.size h4
                              go_wp2_with fail
                              refine hK.out _ _ ?hS155 (fun hHeld => ?hR155)
                              case hS155 => exact KEEP.out _ y4
                              clear hK K
                              try simp only [Act.put, List.setIfInBounds_toArray, List.set_cons_zero, List.set_cons_succ]
                              refine wpAnyH_take (i := 31) (oi := ⟨_, _, _, _, _, _⟩) (v := ?hv156) rfl (by kernel_rfl) (by kernel_rfl) (by kernel_rfl) (fun _ _ _ h => h) (Or.inl ⟨by rfl, ?hy156⟩) hHeld ?hr156
                              case hy156 => (intro W hSw; (try dsimp only at hSw); go_simp; try with_reducible rfl)
                              try simp only [Act.put, List.setIfInBounds_toArray, List.set_cons_zero, List.set_cons_succ]
                              refine wpAnyH_take (i := 32) (oi := ⟨_, _, _, _, _, _⟩) (v := ?hv157) rfl (by kernel_rfl) (by kernel_rfl) (by kernel_rfl) (fun _ _ _ h => h) (Or.inl ⟨by rfl, ?hy157⟩) hHeld ?hr157
                              case hy157 => (intro W hSw; (try dsimp only at hSw); go_simp; try with_reducible rfl)
                              try simp only [Act.put, List.setIfInBounds_toArray, List.set_cons_zero, List.set_cons_succ]
                              refine wpAnyH_done (by kernel_rfl) ?_ _
                              go_wp2_with fail
                              go_meet
                              exact ⟨rfl, y4⟩
                            case hm155 => exact AllReadyH.nil
                          case hm154 => exact AllReadyH.nil
                        case hm138 => exact AllReadyH.nil
                      case hm137 => exact AllReadyH.nil
                    case hm132 => exact AllReadyH.nil
                  case hm131 => exact AllReadyH.nil
                case hm130 =>
                  refine AllReadyH.cons (o := ⟨_, _, _, _, _, _⟩) rfl (fun K hK => ?hs158) ?hm158
                  case hs158 =>
                    go_simp
                    skip
                    refine hK.out _ _ ?hS158 (fun hHeld => ?hR158)
                    case hS158 => exact KEEP.out _ (al2 yd yd.size)
                    clear hK K
                    try simp only [Act.put, List.setIfInBounds_toArray, List.set_cons_zero, List.set_cons_succ]
                    refine wpAnyH_ready (rs := [3]) (by kernel_rfl) (by simp) ?_
                    refine AllReadyH.cons (o := ⟨_, _, _, _, _, _⟩) rfl (fun K hK => ?hs159) ?hm159
                    case hs159 =>
                      go_simp
                      (with_reducible refine (HdB.out _ _ (heap_alloc2_old _ _ _) (al2 yd yd.size)).mono ?_)
                      rintro e u1 ⟨rfl, h1⟩
                      have z1 := below_same h1 (heap_alloc2_new _ _ _)
                      have y1 := hop2 yd yd.size h1
                      go_wp2_with fail
                      refine hK.out _ _ ?hS159 (fun hHeld => ?hR159)
                      case hS159 => exact KEEP.out _ y1
                      clear hK K
                      try simp only [Act.put, List.setIfInBounds_toArray, List.set_cons_zero, List.set_cons_succ]
                      refine wpAnyH_ready (rs := [7]) (by kernel_rfl) (by simp) ?_
                      refine AllReadyH.cons (o := ⟨_, _, _, _, _, _⟩) rfl (fun K hK => ?hs160) ?hm160
                      case hs160 =>
                        go_simp
                        (with_reducible refine (HdS.out _ _ z1 y1).mono ?_)
                        rintro e u2 ⟨rfl, h2⟩
                        have y2 := y1.trans (h2.mono y1.size)
                        go_wp2_with fail
                        refine hK.out _ _ ?hS160 (fun hHeld => ?hR160)
                        case hS160 => exact KEEP.out _ y2
                        clear hK K
                        try simp only [Act.put, List.setIfInBounds_toArray, List.set_cons_zero, List.set_cons_succ]
                        refine wpAnyH_take (i := 8) (oi := ⟨_, _, _, _, _, _⟩) (v := ?hv161) rfl (by kernel_rfl) (by kernel_rfl) (by kernel_rfl) (fun _ _ _ h => h) (Or.inl ⟨by rfl, ?hy161⟩) hHeld ?hr161
                        case hy161 => (intro W hSw; (try dsimp only at hSw); go_simp; try with_reducible rfl)
                        try simp only [Act.put, List.setIfInBounds_toArray, List.set_cons_zero, List.set_cons_succ]
                        refine wpAnyH_take (i := 9) (oi := ⟨_, _, _, _, _, _⟩) (v := ?hv162) rfl (by kernel_rfl) (by kernel_rfl) (by kernel_rfl) (fun _ _ _ h => h) (Or.inl ⟨by rfl, ?hy162⟩) hHeld ?hr162
                        case hy162 => (intro W hSw; (try dsimp only at hSw); go_simp; try with_reducible rfl)
                        try simp only [Act.put, List.setIfInBounds_toArray, List.set_cons_zero, List.set_cons_succ]
                        refine wpAnyH_take (i := 10) (oi := ⟨_, _, _, _, _, _⟩) (v := ?hv163) rfl (by kernel_rfl) (by kernel_rfl) (by kernel_rfl) (fun _ _ _ h => h) (Or.inl ⟨by rfl, ?hy163⟩) hHeld ?hr163
                        case hy163 => (intro W hSw; (try dsimp only at hSw); go_simp; try with_reducible rfl)
                        try simp only [Act.put, List.setIfInBounds_toArray, List.set_cons_zero, List.set_cons_succ]
                        refine wpAnyH_take (i := 11) (oi := ⟨_, _, _, _, _, _⟩) (v := ?hv164) rfl (by kernel_rfl) (by kernel_rfl) (by kernel_rfl) (fun _ _ _ h => h) (Or.inl ⟨by rfl, ?hy164⟩) hHeld ?hr164
                        case hy164 => (intro W hSw; (try dsimp only at hSw); go_simp; try with_reducible rfl)
                        try simp only [Act.put, List.setIfInBounds_toArray, List.set_cons_zero, List.set_cons_succ]
                        refine wpAnyH_ready (rs := [12]) (by kernel_rfl) (by simp) ?_
                        refine AllReadyH.cons (o := ⟨_, _, _, _, _, _⟩) rfl (fun K hK => ?hs165) ?hm165
                        case hs165 =>
                          go_simp
                          skip
                          refine hK.out _ _ ?hS165 (fun hHeld => ?hR165)
                          case hS165 => exact KEEP.out _ (y2.alloc y2.size _)
                          clear hK K
                          try simp only [Act.put, List.setIfInBounds_toArray, List.set_cons_zero, List.set_cons_succ]
                          refine wpAnyH_ready (rs := [13]) (by kernel_rfl) (by simp) ?_
                          refine AllReadyH.cons (o := ⟨_, _, _, _, _, _⟩) rfl (fun K hK => ?hs166) ?hm166
                          case hs166 =>
                            go_simp
                            (with_reducible refine (HdO.out _ _ (World.heap_alloc_new _ _) (y2.alloc y2.size _)).mono ?_)
                            rintro e u3 ⟨rfl, h3⟩
                            have y3 := hop1 y2 y2.size h3
                            go_wp2_with fail
                            refine hK.out _ _ ?hS166 (fun hHeld => ?hR166)
                            case hS166 => exact KEEP.out _ y3
                            clear hK K
                            try simp only [Act.put, List.setIfInBounds_toArray, List.set_cons_zero, List.set_cons_succ]
                            refine wpAnyH_take (i := 14) (oi := ⟨_, _, _, _, _, _⟩) (v := ?hv167) rfl (by kernel_rfl) (by kernel_rfl) (by kernel_rfl) (fun _ _ _ h => h) (Or.inl ⟨by rfl, ?hy167⟩) hHeld ?hr167
                            case hy167 => (intro W hSw; (try dsimp only at hSw); go_simp; try with_reducible rfl)
                            try simp only [Act.put, List.setIfInBounds_toArray, List.set_cons_zero, List.set_cons_succ]
                            refine wpAnyH_take (i := 15) (oi := ⟨_, _, _, _, _, _⟩) (v := undef) rfl (by kernel_rfl) (by kernel_rfl) (by kernel_rfl) (fun _ _ _ h => h) (Or.inr ⟨by rfl, rfl⟩) hHeld ?hr168
                            try simp only [Act.put, List.setIfInBounds_toArray, List.set_cons_zero, List.set_cons_succ]
                            refine wpAnyH_take (i := 16) (oi := ⟨_, _, _, _, _, _⟩) (v := undef) rfl (by kernel_rfl) (by kernel_rfl) (by kernel_rfl) (fun _ _ _ h => h) (Or.inr ⟨by rfl, rfl⟩) hHeld ?hr169
                            try simp only [Act.put, List.setIfInBounds_toArray, List.set_cons_zero, List.set_cons_succ]
                            refine wpAnyH_take (i := 17) (oi := ⟨_, _, _, _, _, _⟩) (v := undef) rfl (by kernel_rfl) (by kernel_rfl) (by kernel_rfl) (fun _ _ _ h => h) (Or.inr ⟨by rfl, rfl⟩) hHeld ?hr170
                            try simp only [Act.put, List.setIfInBounds_toArray, List.set_cons_zero, List.set_cons_succ]
                            refine wpAnyH_take (i := 18) (oi := ⟨_, _, _, _, _, _⟩) (v := undef) rfl (by kernel_rfl) (by kernel_rfl) (by kernel_rfl) (fun _ _ _ h => h) (Or.inr ⟨by rfl, rfl⟩) hHeld ?hr171
                            try simp only [Act.put, List.setIfInBounds_toArray, List.set_cons_zero, List.set_cons_succ]
                            refine wpAnyH_take (i := 19) (oi := ⟨_, _, _, _, _, _⟩) (v := undef) rfl (by kernel_rfl) (by kernel_rfl) (by kernel_rfl) (fun _ _ _ h => h) (Or.inr ⟨by rfl, rfl⟩) hHeld ?hr172
                            try simp only [Act.put, List.setIfInBounds_toArray, List.set_cons_zero, List.set_cons_succ]
                            refine wpAnyH_take (i := 20) (oi := ⟨_, _, _, _, _, _⟩) (v := ?hv173) rfl (by kernel_rfl) (by kernel_rfl) (by kernel_rfl) (fun _ _ _ h => h) (Or.inl ⟨by rfl, ?hy173⟩) hHeld ?hr173
                            case hy173 => (intro W hSw; (try dsimp only at hSw); go_simp; try with_reducible rfl)
                            try simp only [Act.put, List.setIfInBounds_toArray, List.set_cons_zero, List.set_cons_succ]
                            refine wpAnyH_take (i := 21) (oi := ⟨_, _, _, _, _, _⟩) (v := ?hv174) rfl (by kernel_rfl) (by kernel_rfl) (by kernel_rfl) (fun _ _ _ h => h) (Or.inl ⟨by rfl, ?hy174⟩) hHeld ?hr174
                            case hy174 => (intro W hSw; (try dsimp only at hSw); go_simp; try with_reducible rfl)
                            try simp only [Act.put, List.setIfInBounds_toArray, List.set_cons_zero, List.set_cons_succ]
                            refine wpAnyH_take (i := 22) (oi := ⟨_, _, _, _, _, _⟩) (v := ?hv175) rfl (by kernel_rfl) (by kernel_rfl) (by kernel_rfl) (fun _ _ _ h => h) (Or.inl ⟨by rfl, ?hy175⟩) hHeld ?hr175
                            case hy175 => (intro W hSw; (try dsimp only at hSw); go_simp; try with_reducible rfl)
                            try simp only [Act.put, List.setIfInBounds_toArray, List.set_cons_zero, List.set_cons_succ]
                            refine wpAnyH_take (i := 23) (oi := ⟨_, _, _, _, _, _⟩) (v := ?hv176) rfl (by kernel_rfl) (by kernel_rfl) (by kernel_rfl) (fun _ _ _ h => h) (Or.inl ⟨by rfl, ?hy176⟩) hHeld ?hr176
                            case hy176 => (intro W hSw; (try dsimp only at hSw); go_simp; try with_reducible rfl)
                            try simp only [Act.put, List.setIfInBounds_toArray, List.set_cons_zero, List.set_cons_succ]
                            refine wpAnyH_take (i := 24) (oi := ⟨_, _, _, _, _, _⟩) (v := ?hv177) rfl (by kernel_rfl) (by kernel_rfl) (by kernel_rfl) (fun _ _ _ h => h) (Or.inl ⟨by rfl, ?hy177⟩) hHeld ?hr177
                            case hy177 => (intro W hSw; (try dsimp only at hSw); go_simp; try with_reducible rfl)
                            try simp only [Act.put, List.setIfInBounds_toArray, List.set_cons_zero, List.set_cons_succ]
                            refine wpAnyH_take (i := 27) (oi := ⟨_, _, _, _, _, _⟩) (v := ?hv178) rfl (by kernel_rfl) (by kernel_rfl) (by kernel_rfl) (fun _ _ _ h => h) (Or.inl ⟨by rfl, ?hy178⟩) hHeld ?hr178
                            case hy178 => (intro W hSw; (try dsimp only at hSw); go_simp; try with_reducible rfl)
                            try simp only [Act.put, List.setIfInBounds_toArray, List.set_cons_zero, List.set_cons_succ]
                            refine wpAnyH_take (i := 28) (oi := ⟨_, _, _, _, _, _⟩) (v := ?hv179) rfl (by kernel_rfl) (by kernel_rfl) (by kernel_rfl) (fun _ _ _ h => h) (Or.inl ⟨by rfl, ?hy179⟩) hHeld ?hr179
                            case hy179 => (intro W hSw; (try dsimp only at hSw); go_simp; try with_reducible rfl)
                            try simp only [Act.put, List.setIfInBounds_toArray, List.set_cons_zero, List.set_cons_succ]
                            refine wpAnyH_take (i := 29) (oi := ⟨_, _, _, _, _, _⟩) (v := ?hv180) rfl (by kernel_rfl) (by kernel_rfl) (by kernel_rfl) (fun _ _ _ h => h) (Or.inl ⟨by rfl, ?hy180⟩) hHeld ?hr180
                            case hy180 => (intro W hSw; (try dsimp only at hSw); go_simp; try with_reducible rfl)
                            try simp only [Act.put, List.setIfInBounds_toArray, List.set_cons_zero, List.set_cons_succ]
                            refine wpAnyH_take (i := 30) (oi := ⟨_, _, _, _, _, _⟩) (v := ?hv181) rfl (by kernel_rfl) (by kernel_rfl) (by kernel_rfl) (fun _ _ _ h => h) (Or.inl ⟨by rfl, ?hy181⟩) hHeld ?hr181
                            case hy181 => (intro W hSw; (try dsimp only at hSw); go_simp; try with_reducible rfl)
                            try simp only [Act.put, List.setIfInBounds_toArray, List.set_cons_zero, List.set_cons_succ]
                            refine wpAnyH_ready (rs := [25]) (by kernel_rfl) (by simp) ?_
                            refine AllReadyH.cons (o := ⟨_, _, _, _, _, _⟩) rfl (fun K hK => ?hs182) ?hm182
                            case hs182 =>
                              go_simp
                              skip
                              refine hK.out _ _ ?hS182 (fun hHeld => ?hR182)
                              case hS182 => exact KEEP.out _ (y3.alloc y3.size _)
                              clear hK K
                              try simp only [Act.put, List.setIfInBounds_toArray, List.set_cons_zero, List.set_cons_succ]
                              refine wpAnyH_ready (rs := [26]) (by kernel_rfl) (by simp) ?_
                              refine AllReadyH.cons (o := ⟨_, _, _, _, _, _⟩) rfl (fun K hK => ?hs183) ?hm183
                              case hs183 =>
                                go_simp
                                (with_reducible refine (HdO.out _ _ (World.heap_alloc_new _ _) (y3.alloc y3.size _)).mono ?_)
                                rintro e u4 ⟨rfl, h4⟩
                                have y4 := hop1 y3 y3.size h4
                                go_wp2_with fail
                                refine hK.out _ _ ?hS183 (fun hHeld => ?hR183)
                                case hS183 => exact KEEP.out _ y4
                                clear hK K
                                try simp only [Act.put, List.setIfInBounds_toArray, List.set_cons_zero, List.set_cons_succ]
                                refine wpAnyH_take (i := 31) (oi := ⟨_, _, _, _, _, _⟩) (v := ?hv184) rfl (by kernel_rfl) (by kernel_rfl) (by kernel_rfl) (fun _ _ _ h => h) (Or.inl ⟨by rfl, ?hy184⟩) hHeld ?hr184
                                case hy184 => (intro W hSw; (try dsimp only at hSw); go_simp; try with_reducible rfl)
                                try simp only [Act.put, List.setIfInBounds_toArray, List.set_cons_zero, List.set_cons_succ]
                                refine wpAnyH_take (i := 32) (oi := ⟨_, _, _, _, _, _⟩) (v := ?hv185) rfl (by kernel_rfl) (by kernel_rfl) (by kernel_rfl) (fun _ _ _ h => h) (Or.inl ⟨by rfl, ?hy185⟩) hHeld ?hr185
                                case hy185 => (intro W hSw; (try dsimp only at hSw); go_simp; try with_reducible rfl)
                                try simp only [Act.put, List.setIfInBounds_toArray, List.set_cons_zero, List.set_cons_succ]
                                refine wpAnyH_done (by kernel_rfl) ?_ _
                                go_wp2_with fail
                                go_meet
                                exact ⟨rfl, y4⟩
                              case hm183 => exact AllReadyH.nil
                            case hm182 => exact AllReadyH.nil
                          case hm166 => exact AllReadyH.nil
                        case hm165 => exact AllReadyH.nil
                      case hm160 => exact AllReadyH.nil
                    case hm159 => exact AllReadyH.nil
                  case hm158 => exact AllReadyH.nil
              case hm129 =>
                refine AllReadyH.cons (o := ⟨_, _, _, _, _, _⟩) rfl (fun K hK => ?hs186) ?hm186
                case hs186 =>
                  go_simp
                  skip
                  refine hK.out _ _ ?hS186 (fun hHeld => ?hR186)
                  case hS186 => exact KEEP.out _ (yd.alloc yd.size _)
                  clear hK K
                  try simp only [Act.put, List.setIfInBounds_toArray, List.set_cons_zero, List.set_cons_succ]
                  refine wpAnyH_ready (rs := [2]) (by kernel_rfl) (by simp) ?_
                  refine AllReadyH.cons (o := ⟨_, _, _, _, _, _⟩) rfl (fun K hK => ?hs187) ?hm187
                  case hs187 =>
                    go_simp
                    skip
                    refine hK.out _ _ ?hS187 (fun hHeld => ?hR187)
                    case hS187 => exact KEEP.out _ (al2 yd yd.size)
                    clear hK K
                    try simp only [Act.put, List.setIfInBounds_toArray, List.set_cons_zero, List.set_cons_succ]
                    refine wpAnyH_ready (rs := [3]) (by kernel_rfl) (by simp) ?_
                    refine AllReadyH.cons (o := ⟨_, _, _, _, _, _⟩) rfl (fun K hK => ?hs188) ?hm188
                    case hs188 =>
                      go_simp
                      (with_reducible refine (HdB.out _ _ (heap_alloc2_new _ _ _) (al2 yd yd.size)).mono ?_)
                      rintro e u1 ⟨rfl, h1⟩
                      have z1 := below_same h1 (heap_alloc2_old _ _ _)
                      have y1 := hop2 yd yd.size h1
                      go_wp2_with fail
                      refine hK.out _ _ ?hS188 (fun hHeld => ?hR188)
                      case hS188 => exact KEEP.out _ y1
                      clear hK K
                      try simp only [Act.put, List.setIfInBounds_toArray, List.set_cons_zero, List.set_cons_succ]
                      refine wpAnyH_ready (rs := [7]) (by kernel_rfl) (by simp) ?_
                      refine AllReadyH.cons (o := ⟨_, _, _, _, _, _⟩) rfl (fun K hK => ?hs189) ?hm189
                      case hs189 =>
                        go_simp
                        (with_reducible refine (HdS.out _ _ z1 y1).mono ?_)
                        rintro e u2 ⟨rfl, h2⟩
                        have y2 := y1.trans (h2.mono y1.size)
                        go_wp2_with fail
                        refine hK.out _ _ ?hS189 (fun hHeld => ?hR189)
                        case hS189 => exact KEEP.out _ y2
                        clear hK K
                        try simp only [Act.put, List.setIfInBounds_toArray, List.set_cons_zero, List.set_cons_succ]
                        refine wpAnyH_take (i := 8) (oi := ⟨_, _, _, _, _, _⟩) (v := ?hv190) rfl (by kernel_rfl) (by kernel_rfl) (by kernel_rfl) (fun _ _ _ h => h) (Or.inl ⟨by rfl, ?hy190⟩) hHeld ?hr190
                        case hy190 => (intro W hSw; (try dsimp only at hSw); go_simp; try with_reducible rfl)
                        try simp only [Act.put, List.setIfInBounds_toArray, List.set_cons_zero, List.set_cons_succ]
                        refine wpAnyH_take (i := 9) (oi := ⟨_, _, _, _, _, _⟩) (v := ?hv191) rfl (by kernel_rfl) (by kernel_rfl) (by kernel_rfl) (fun _ _ _ h => h) (Or.inl ⟨by rfl, ?hy191⟩) hHeld ?hr191
                        case hy191 => (intro W hSw; (try dsimp only at hSw); go_simp; try with_reducible rfl)
                        try simp only [Act.put, List.setIfInBounds_toArray, List.set_cons_zero, List.set_cons_succ]
                        refine wpAnyH_take (i := 10) (oi := ⟨_, _, _, _, _, _⟩) (v := ?hv192) rfl (by kernel_rfl) (by kernel_rfl) (by kernel_rfl) (fun _ _ _ h => h) (Or.inl ⟨by rfl, ?hy192⟩) hHeld ?hr192
                        case hy192 => (intro W hSw; (try dsimp only at hSw); go_simp; try with_reducible rfl)
                        try simp only [Act.put, List.setIfInBounds_toArray, List.set_cons_zero, List.set_cons_succ]
                        refine wpAnyH_take (i := 11) (oi := ⟨_, _, _, _, _, _⟩) (v := ?hv193) rfl (by kernel_rfl) (by kernel_rfl) (by kernel_rfl) (fun _ _ _ h => h) (Or.inl ⟨by rfl, ?hy193⟩) hHeld ?hr193
                        case hy193 => (intro W hSw; (try dsimp only at hSw); go_simp; try with_reducible rfl)
                        try simp only [Act.put, List.setIfInBounds_toArray, List.set_cons_zero, List.set_cons_succ]
                        refine wpAnyH_ready (rs := [12]) (by kernel_rfl) (by simp) ?_
                        refine AllReadyH.cons (o := ⟨_, _, _, _, _, _⟩) rfl (fun K hK => ?hs194) ?hm194
                        case hs194 =>
                          go_simp
                          skip
                          refine hK.out _ _ ?hS194 (fun hHeld => ?hR194)
                          case hS194 => exact KEEP.out _ (y2.alloc y2.size _)
                          clear hK K
                          try simp only [Act.put, List.setIfInBounds_toArray, List.set_cons_zero, List.set_cons_succ]
                          refine wpAnyH_ready (rs := [13]) (by kernel_rfl) (by simp) ?_
                          refine AllReadyH.cons (o := ⟨_, _, _, _, _, _⟩) rfl (fun K hK => ?hs195) ?hm195
                          case hs195 =>
                            go_simp
                            (with_reducible refine (HdO.out _ _ (World.heap_alloc_new _ _) (y2.alloc y2.size _)).mono ?_)
                            rintro e u3 ⟨rfl, h3⟩
                            have y3 := hop1 y2 y2.size h3
                            go_wp2_with fail
                            refine hK.out _ _ ?hS195 (fun hHeld => ?hR195)
                            case hS195 => exact KEEP.out _ y3
                            clear hK K
                            try simp only [Act.put, List.setIfInBounds_toArray, List.set_cons_zero, List.set_cons_succ]
                            refine wpAnyH_take (i := 14) (oi := ⟨_, _, _, _, _, _⟩) (v := ?hv196) rfl (by kernel_rfl) (by kernel_rfl) (by kernel_rfl) (fun _ _ _ h => h) (Or.inl ⟨by rfl, ?hy196⟩) hHeld ?hr196
                            case hy196 => (intro W hSw; (try dsimp only at hSw); go_simp; try with_reducible rfl)
                            try simp only [Act.put, List.setIfInBounds_toArray, List.set_cons_zero, List.set_cons_succ]
                            refine wpAnyH_take (i := 15) (oi := ⟨_, _, _, _, _, _⟩) (v := undef) rfl (by kernel_rfl) (by kernel_rfl) (by kernel_rfl) (fun _ _ _ h => h) (Or.inr ⟨by rfl, rfl⟩) hHeld ?hr197
                            try simp only [Act.put, List.setIfInBounds_toArray, List.set_cons_zero, List.set_cons_succ]
                            refine wpAnyH_take (i := 16) (oi := ⟨_, _, _, _, _, _⟩) (v := undef) rfl (by kernel_rfl) (by kernel_rfl) (by kernel_rfl) (fun _ _ _ h => h) (Or.inr ⟨by rfl, rfl⟩) hHeld ?hr198
                            try simp only [Act.put, List.setIfInBounds_toArray, List.set_cons_zero, List.set_cons_succ]
                            refine wpAnyH_take (i := 17) (oi := ⟨_, _, _, _, _, _⟩) (v := undef) rfl (by kernel_rfl) (by kernel_rfl) (by kernel_rfl) (fun _ _ _ h => h) (Or.inr ⟨by rfl, rfl⟩) hHeld ?hr199
                            try simp only [Act.put, List.setIfInBounds_toArray, List.set_cons_zero, List.set_cons_succ]
                            refine wpAnyH_take (i := 18) (oi := ⟨_, _, _, _, _, _⟩) (v := undef) rfl (by kernel_rfl) (by kernel_rfl) (by kernel_rfl) (fun _ _ _ h => h) (Or.inr ⟨by rfl, rfl⟩) hHeld ?hr200
                            try simp only [Act.put, List.setIfInBounds_toArray, List.set_cons_zero, List.set_cons_succ]
                            refine wpAnyH_take (i := 19) (oi := ⟨_, _, _, _, _, _⟩) (v := undef) rfl (by kernel_rfl) (by kernel_rfl) (by kernel_rfl) (fun _ _ _ h => h) (Or.inr ⟨by rfl, rfl⟩) hHeld ?hr201
                            try simp only [Act.put, List.setIfInBounds_toArray, List.set_cons_zero, List.set_cons_succ]
                            refine wpAnyH_take (i := 20) (oi := ⟨_, _, _, _, _, _⟩) (v := ?hv202) rfl (by kernel_rfl) (by kernel_rfl) (by kernel_rfl) (fun _ _ _ h => h) (Or.inl ⟨by rfl, ?hy202⟩) hHeld ?hr202
                            case hy202 => (intro W hSw; (try dsimp only at hSw); go_simp; try with_reducible rfl)
                            try simp only [Act.put, List.setIfInBounds_toArray, List.set_cons_zero, List.set_cons_succ]
                            refine wpAnyH_take (i := 21) (oi := ⟨_, _, _, _, _, _⟩) (v := ?hv203) rfl (by kernel_rfl) (by kernel_rfl) (by kernel_rfl) (fun _ _ _ h => h) (Or.inl ⟨by rfl, ?hy203⟩) hHeld ?hr203
                            case hy203 => (intro W hSw; (try dsimp only at hSw); go_simp; try with_reducible rfl)
                            try simp only [Act.put, List.setIfInBounds_toArray, List.set_cons_zero, List.set_cons_succ]
                            refine wpAnyH_take (i := 22) (oi := ⟨_, _, _, _, _, _⟩) (v := ?hv204) rfl (by kernel_rfl) (by kernel_rfl) (by kernel_rfl) (fun _ _ _ h => h) (Or.inl ⟨by rfl, ?hy204⟩) hHeld ?hr204
                            case hy204 => (intro W hSw; (try dsimp only at hSw); go_simp; try with_reducible rfl)
                            try simp only [Act.put, List.setIfInBounds_toArray, List.set_cons_zero, List.set_cons_succ]
                            refine wpAnyH_take (i := 23) (oi := ⟨_, _, _, _, _, _⟩) (v := ?hv205) rfl (by kernel_rfl) (by kernel_rfl) (by kernel_rfl) (fun _ _ _ h => h) (Or.inl ⟨by rfl, ?hy205⟩) hHeld ?hr205
                            case hy205 => (intro W hSw; (try dsimp only at hSw); go_simp; try with_reducible rfl)
                            try simp only [Act.put, List.setIfInBounds_toArray, List.set_cons_zero, List.set_cons_succ]
                            refine wpAnyH_take (i := 24) (oi := ⟨_, _, _, _, _, _⟩) (v := ?hv206) rfl (by kernel_rfl) (by kernel_rfl) (by kernel_rfl) (fun _ _ _ h => h) (Or.inl ⟨by rfl, ?hy206⟩) hHeld ?hr206
                            case hy206 => (intro W hSw; (try dsimp only at hSw); go_simp; try with_reducible rfl)
                            try simp only [Act.put, List.setIfInBounds_toArray, List.set_cons_zero, List.set_cons_succ]
                            refine wpAnyH_take (i := 27) (oi := ⟨_, _, _, _, _, _⟩) (v := ?hv207) rfl (by kernel_rfl) (by kernel_rfl) (by kernel_rfl) (fun _ _ _ h => h) (Or.inl ⟨by rfl, ?hy207⟩) hHeld ?hr207
                            case hy207 => (intro W hSw; (try dsimp only at hSw); go_simp; try with_reducible rfl)
                            try simp only [Act.put, List.setIfInBounds_toArray, List.set_cons_zero, List.set_cons_succ]
                            refine wpAnyH_take (i := 28) (oi := ⟨_, _, _, _, _, _⟩) (v := ?hv208) rfl (by kernel_rfl) (by kernel_rfl) (by kernel_rfl) (fun _ _ _ h => h) (Or.inl ⟨by rfl, ?hy208⟩) hHeld ?hr208
                            case hy208 => (intro W hSw; (try dsimp only at hSw); go_simp; try with_reducible rfl)
                            try simp only [Act.put, List.setIfInBounds_toArray, List.set_cons_zero, List.set_cons_succ]
                            refine wpAnyH_take (i := 29) (oi := ⟨_, _, _, _, _, _⟩) (v := ?hv209) rfl (by kernel_rfl) (by kernel_rfl) (by kernel_rfl) (fun _ _ _ h => h) (Or.inl ⟨by rfl, ?hy209⟩) hHeld ?hr209
                            case hy209 => (intro W hSw; (try dsimp only at hSw); go_simp; try with_reducible rfl)
                            try simp only [Act.put, List.setIfInBounds_toArray, List.set_cons_zero, List.set_cons_succ]
                            refine wpAnyH_take (i := 30) (oi := ⟨_, _, _, _, _, _⟩) (v := ?hv210) rfl (by kernel_rfl) (by kernel_rfl) (by kernel_rfl) (fun _ _ _ h => h) (Or.inl ⟨by rfl, ?hy210⟩) hHeld ?hr210
                            case hy210 => (intro W hSw; (try dsimp only at hSw); go_simp; try with_reducible rfl)
                            try simp only [Act.put, List.setIfInBounds_toArray, List.set_cons_zero, List.set_cons_succ]
                            refine wpAnyH_ready (rs := [25]) (by kernel_rfl) (by simp) ?_
                            refine AllReadyH.cons (o := ⟨_, _, _, _, _, _⟩) rfl (fun K hK => ?hs211) ?hm211
                            case hs211 =>
                              go_simp
                              skip
                              refine hK.out _ _ ?hS211 (fun hHeld => ?hR211)
                              case hS211 => exact KEEP.out _ (y3.alloc y3.size _)
                              clear hK K
                              try simp only [Act.put, List.setIfInBounds_toArray, List.set_cons_zero, List.set_cons_succ]
                              refine wpAnyH_ready (rs := [26]) (by kernel_rfl) (by simp) ?_
                              refine AllReadyH.cons (o := ⟨_, _, _, _, _, _⟩) rfl (fun K hK => ?hs212) ?hm212
                              case hs212 =>
                                go_simp
                                (with_reducible refine (HdO.out _ _ (World.heap_alloc_new _ _) (y3.alloc y3.size _)).mono ?_)
                                rintro e u4 ⟨rfl, h4⟩
                                have y4 := hop1 y3 y3.size h4
                                go_wp2_with fail
                                refine hK.out _ _ ?hS212 (fun hHeld => ?hR212)
                                case hS212 => exact KEEP.out _ y4
                                clear hK K
                                try simp only [Act.put, List.setIfInBounds_toArray, List.set_cons_zero, List.set_cons_succ]
                                refine wpAnyH_take (i := 31) (oi := ⟨_, _, _, _, _, _⟩) (v := ?hv213) rfl (by kernel_rfl) (by kernel_rfl) (by kernel_rfl) (fun _ _ _ h => h) (Or.inl ⟨by rfl, ?hy213⟩) hHeld ?hr213
                                case hy213 => (intro W hSw; (try dsimp only at hSw); go_simp; try with_reducible rfl)
                                try simp only [Act.put, List.setIfInBounds_toArray, List.set_cons_zero, List.set_cons_succ]
                                refine wpAnyH_take (i := 32) (oi := ⟨_, _, _, _, _, _⟩) (v := ?hv214) rfl (by kernel_rfl) (by kernel_rfl) (by kernel_rfl) (fun _ _ _ h => h) (Or.inl ⟨by rfl, ?hy214⟩) hHeld ?hr214
                                case hy214 => (intro W hSw; (try dsimp only at hSw); go_simp; try with_reducible rfl)
                                try simp only [Act.put, List.setIfInBounds_toArray, List.set_cons_zero, List.set_cons_succ]
                                refine wpAnyH_done (by kernel_rfl) ?_ _
                                go_wp2_with fail
                                go_meet
                                exact ⟨rfl, y4⟩
                              case hm212 => exact AllReadyH.nil
                            case hm211 => exact AllReadyH.nil
                          case hm195 => exact AllReadyH.nil
                        case hm194 => exact AllReadyH.nil
                      case hm189 => exact AllReadyH.nil
                    case hm188 => exact AllReadyH.nil
                  case hm187 => exact AllReadyH.nil
                case hm186 => exact AllReadyH.nil
          · have dB : ∀ (W : World) (g : Nat), W.heap[g]? = some (.cells #[.string ⟨#[66, 69, 70, 79, 82, 69]⟩, .string ⟨D.toArray⟩] 9 (0, 0)) → Below w1.heap.size w1 W → Calls Tryz.prog 8 #[.slice (some ⟨g, 0, none⟩) 2 2, .pointer (some ⟨w.heap.size, 0, none⟩), .pointer (some ⟨w.heap.size + 1, 0, none⟩), .pointer (some ⟨w.heap.size + 2, 0, none⟩), .pointer (some ⟨w.heap.size + 3, 0, none⟩)] W fun e w' => e = .returned (.bool false) ∧ Below W.heap.size W w' := fun W g hg hW => by
              have hr := hearN_any x fv HLF.out HX.out (.slice (some ⟨g, 0, none⟩) 2 2) [[66, 69, 70, 79, 82, 69], D] w.heap.size (w.heap.size + 1) (w.heap.size + 2) (w.heap.size + 3) W (HW.out W hW) (srow_block (ts := [[66, 69, 70, 79, 82, 69], D]) hg rfl 2 rfl) (by simp) (fun t ht => by
                simp only [List.mem_cons, List.not_mem_nil, or_false] at ht
                rcases ht with rfl | rfl <;> first | exact HSL.out | exact HDL.out | (simp; done))
              rw [show [[66, 69, 70, 79, 82, 69], D].map atomW = [atomW [66, 69, 70, 79, 82, 69], atomW D] from rfl, HG1.out.trans (decide_eq_false (by omega))] at hr
              exact hr
            have HdB := Lib.hid dB
            clear dB
            have dS : ∀ (W : World) (g : Nat), W.heap[g]? = some (.cells #[.string ⟨#[83, 73, 78, 67, 69]⟩, .string ⟨D.toArray⟩] 9 (0, 0)) → Below w1.heap.size w1 W → Calls Tryz.prog 8 #[.slice (some ⟨g, 0, none⟩) 2 2, .pointer (some ⟨w.heap.size, 0, none⟩), .pointer (some ⟨w.heap.size + 1, 0, none⟩), .pointer (some ⟨w.heap.size + 2, 0, none⟩), .pointer (some ⟨w.heap.size + 3, 0, none⟩)] W fun e w' => e = .returned (.bool true) ∧ Below W.heap.size W w' := fun W g hg hW => by
              have hr := hearN_any x fv HLF.out HX.out (.slice (some ⟨g, 0, none⟩) 2 2) [[83, 73, 78, 67, 69], D] w.heap.size (w.heap.size + 1) (w.heap.size + 2) (w.heap.size + 3) W (HW.out W hW) (srow_block (ts := [[83, 73, 78, 67, 69], D]) hg rfl 2 rfl) (by simp) (fun t ht => by
                simp only [List.mem_cons, List.not_mem_nil, or_false] at ht
                rcases ht with rfl | rfl <;> first | exact HSL.out | exact HDL.out | (simp; done))
              rw [show [[83, 73, 78, 67, 69], D].map atomW = [atomW [83, 73, 78, 67, 69], atomW D] from rfl, HG2.out.trans (decide_eq_true (by omega))] at hr
              exact hr
            have HdS := Lib.hid dS
            clear dS
            have dO : ∀ (W : World) (g : Nat), W.heap[g]? = some (.cells #[.string ⟨#[79, 78]⟩, .string ⟨D.toArray⟩] 9 (0, 0)) → Below w1.heap.size w1 W → Calls Tryz.prog 8 #[.slice (some ⟨g, 0, none⟩) 2 2, .pointer (some ⟨w.heap.size, 0, none⟩), .pointer (some ⟨w.heap.size + 1, 0, none⟩), .pointer (some ⟨w.heap.size + 2, 0, none⟩), .pointer (some ⟨w.heap.size + 3, 0, none⟩)] W fun e w' => e = .returned (.bool true) ∧ Below W.heap.size W w' := fun W g hg hW => by
              have hr := hearN_any x fv HLF.out HX.out (.slice (some ⟨g, 0, none⟩) 2 2) [[79, 78], D] w.heap.size (w.heap.size + 1) (w.heap.size + 2) (w.heap.size + 3) W (HW.out W hW) (srow_block (ts := [[79, 78], D]) hg rfl 2 rfl) (by simp) (fun t ht => by
                simp only [List.mem_cons, List.not_mem_nil, or_false] at ht
                rcases ht with rfl | rfl <;> first | exact HSL.out | exact HDL.out | (simp; done))
              rw [show [[79, 78], D].map atomW = [atomW [79, 78], atomW D] from rfl, HG3.out.trans (decide_eq_true (by omega))] at hr
              exact hr
            have HdO := Lib.hid dO
            clear dO
            have e1 : decide (x.day = (q : Int)) = true := decide_eq_true (by omega)
            have e2 : (x.day == (q : Int)) = true := by rw [beq_iff_eq]; omega
            clear hd
            as_aux_lemma =>
              have yd := y.drew
              refine wp_region_held_drew (S := fun W => W.cell? ⟨w.heap.size + 1, 0, none⟩ = some (.int .i64 x.which) ∧ W.cell? ⟨w.heap.size + 2, 0, none⟩ = some (.int .i64 x.many) ∧ W.cell? ⟨w.heap.size, 0, none⟩ = some (.int .i64 x.uid) ∧ W.cell? ⟨w.heap.size + 3, 0, none⟩ = some (.int .i64 x.greatest) ∧ W.cell? ⟨w.heap.size, 2, none⟩ = some (.int .i64 x.day) ∧ W.cell? ⟨w.heap.size, 3, none⟩ = some (.string ⟨x.text.toArray⟩)) (by kernel_rfl) (KEEP.out _ yd) (fun hHeld => ?_)
              generalize wc.drew = wd at *
              refine wpAnyH_take (i := 0) (oi := ⟨_, _, _, _, _, _⟩) (v := ?hv215) rfl (by kernel_rfl) (by kernel_rfl) (by kernel_rfl) (fun _ _ _ h => h) (Or.inl ⟨by rfl, ?hy215⟩) hHeld ?hr215
              case hy215 => (intro W hSw; (try dsimp only at hSw); go_simp; try with_reducible rfl)
              try simp only [Act.put, List.setIfInBounds_toArray, List.set_cons_zero, List.set_cons_succ]
              refine wpAnyH_take (i := 1) (oi := ⟨_, _, _, _, _, _⟩) (v := ?hv216) rfl (by kernel_rfl) (by kernel_rfl) (by kernel_rfl) (fun _ _ _ h => h) (Or.inl ⟨by rfl, ?hy216⟩) hHeld ?hr216
              case hy216 => (intro W hSw; (try dsimp only at hSw); go_simp; try with_reducible rfl)
              try simp only [Act.put, List.setIfInBounds_toArray, List.set_cons_zero, List.set_cons_succ]
              refine wpAnyH_take (i := 4) (oi := ⟨_, _, _, _, _, _⟩) (v := ?hv217) rfl (by kernel_rfl) (by kernel_rfl) (by kernel_rfl) (fun _ _ _ h => h) (Or.inl ⟨by rfl, ?hy217⟩) hHeld ?hr217
              case hy217 => (intro W hSw; (try dsimp only at hSw); go_simp; try with_reducible rfl)
              try simp only [Act.put, List.setIfInBounds_toArray, List.set_cons_zero, List.set_cons_succ]
              refine wpAnyH_take (i := 5) (oi := ⟨_, _, _, _, _, _⟩) (v := ?hv218) rfl (by kernel_rfl) (by kernel_rfl) (by kernel_rfl) (fun _ _ _ h => h) (Or.inl ⟨by rfl, ?hy218⟩) hHeld ?hr218
              case hy218 => (intro W hSw; (try dsimp only at hSw); go_simp; try with_reducible rfl)
              try simp only [Act.put, List.setIfInBounds_toArray, List.set_cons_zero, List.set_cons_succ]
              refine wpAnyH_ready (rs := [2, 6]) (by kernel_rfl) (by simp) ?_
              refine AllReadyH.cons (o := ⟨_, _, _, _, _, _⟩) rfl (fun K hK => ?hs219) ?hm219
              case hs219 =>
                go_simp
                skip
                refine hK.out _ _ ?hS219 (fun hHeld => ?hR219)
                case hS219 => exact KEEP.out _ (yd.alloc yd.size _)
                clear hK K
                try simp only [Act.put, List.setIfInBounds_toArray, List.set_cons_zero, List.set_cons_succ]
                refine wpAnyH_ready (rs := [3, 6]) (by kernel_rfl) (by simp) ?_
                refine AllReadyH.cons (o := ⟨_, _, _, _, _, _⟩) rfl (fun K hK => ?hs220) ?hm220
                case hs220 =>
                  go_simp
                  (with_reducible refine (HdB.out _ _ (World.heap_alloc_new _ _) (yd.alloc yd.size _)).mono ?_)
                  rintro e u1 ⟨rfl, h1⟩
                  have y1 := hop1 yd yd.size h1
                  go_wp2_with fail
                  refine hK.out _ _ ?hS220 (fun hHeld => ?hR220)
                  case hS220 => exact KEEP.out _ y1
                  clear hK K
                  try simp only [Act.put, List.setIfInBounds_toArray, List.set_cons_zero, List.set_cons_succ]
                  refine wpAnyH_ready (rs := [6]) (by kernel_rfl) (by simp) ?_
                  refine AllReadyH.cons (o := ⟨_, _, _, _, _, _⟩) rfl (fun K hK => ?hs221) ?hm221
                  case hs221 =>
                    go_simp
                    skip
                    refine hK.out _ _ ?hS221 (fun hHeld => ?hR221)
                    case hS221 => exact KEEP.out _ (y1.alloc y1.size _)
                    clear hK K
                    try simp only [Act.put, List.setIfInBounds_toArray, List.set_cons_zero, List.set_cons_succ]
                    refine wpAnyH_ready (rs := [7]) (by kernel_rfl) (by simp) ?_
                    refine AllReadyH.cons (o := ⟨_, _, _, _, _, _⟩) rfl (fun K hK => ?hs222) ?hm222
                    case hs222 =>
                      go_simp
                      (with_reducible refine (HdS.out _ _ (World.heap_alloc_new _ _) (y1.alloc y1.size _)).mono ?_)
                      rintro e u2 ⟨rfl, h2⟩
                      have y2 := hop1 y1 y1.size h2
                      go_wp2_with fail
                      refine hK.out _ _ ?hS222 (fun hHeld => ?hR222)
                      case hS222 => exact KEEP.out _ y2
                      clear hK K
                      try simp only [Act.put, List.setIfInBounds_toArray, List.set_cons_zero, List.set_cons_succ]
                      refine wpAnyH_take (i := 8) (oi := ⟨_, _, _, _, _, _⟩) (v := ?hv223) rfl (by kernel_rfl) (by kernel_rfl) (by kernel_rfl) (fun _ _ _ h => h) (Or.inl ⟨by rfl, ?hy223⟩) hHeld ?hr223
                      case hy223 => (intro W hSw; (try dsimp only at hSw); go_simp; try with_reducible rfl)
                      try simp only [Act.put, List.setIfInBounds_toArray, List.set_cons_zero, List.set_cons_succ]
                      refine wpAnyH_take (i := 9) (oi := ⟨_, _, _, _, _, _⟩) (v := ?hv224) rfl (by kernel_rfl) (by kernel_rfl) (by kernel_rfl) (fun _ _ _ h => h) (Or.inl ⟨by rfl, ?hy224⟩) hHeld ?hr224
                      case hy224 => (intro W hSw; (try dsimp only at hSw); go_simp; try with_reducible rfl)
                      try simp only [Act.put, List.setIfInBounds_toArray, List.set_cons_zero, List.set_cons_succ]
                      refine wpAnyH_take (i := 10) (oi := ⟨_, _, _, _, _, _⟩) (v := ?hv225) rfl (by kernel_rfl) (by kernel_rfl) (by kernel_rfl) (fun _ _ _ h => h) (Or.inl ⟨by rfl, ?hy225⟩) hHeld ?hr225
                      case hy225 => (intro W hSw; (try dsimp only at hSw); go_simp; try with_reducible rfl)
                      try simp only [Act.put, List.setIfInBounds_toArray, List.set_cons_zero, List.set_cons_succ]
                      refine wpAnyH_take (i := 11) (oi := ⟨_, _, _, _, _, _⟩) (v := ?hv226) rfl (by kernel_rfl) (by kernel_rfl) (by kernel_rfl) (fun _ _ _ h => h) (Or.inl ⟨by rfl, ?hy226⟩) hHeld ?hr226
                      case hy226 => (intro W hSw; (try dsimp only at hSw); go_simp; try with_reducible rfl)
                      try simp only [Act.put, List.setIfInBounds_toArray, List.set_cons_zero, List.set_cons_succ]
                      refine wpAnyH_ready (rs := [12]) (by kernel_rfl) (by simp) ?_
                      refine AllReadyH.cons (o := ⟨_, _, _, _, _, _⟩) rfl (fun K hK => ?hs227) ?hm227
                      case hs227 =>
                        go_simp
                        skip
                        refine hK.out _ _ ?hS227 (fun hHeld => ?hR227)
                        case hS227 => exact KEEP.out _ (y2.alloc y2.size _)
                        clear hK K
                        try simp only [Act.put, List.setIfInBounds_toArray, List.set_cons_zero, List.set_cons_succ]
                        refine wpAnyH_ready (rs := [13]) (by kernel_rfl) (by simp) ?_
                        refine AllReadyH.cons (o := ⟨_, _, _, _, _, _⟩) rfl (fun K hK => ?hs228) ?hm228
                        case hs228 =>
                          go_simp
                          (with_reducible refine (HdO.out _ _ (World.heap_alloc_new _ _) (y2.alloc y2.size _)).mono ?_)
                          rintro e u3 ⟨rfl, h3⟩
                          have y3 := hop1 y2 y2.size h3
                          go_wp2_with fail
                          refine hK.out _ _ ?hS228 (fun hHeld => ?hR228)
                          case hS228 => exact KEEP.out _ y3
                          clear hK K
                          try simp only [Act.put, List.setIfInBounds_toArray, List.set_cons_zero, List.set_cons_succ]
                          refine wpAnyH_take (i := 14) (oi := ⟨_, _, _, _, _, _⟩) (v := ?hv229) rfl (by kernel_rfl) (by kernel_rfl) (by kernel_rfl) (fun _ _ _ h => h) (Or.inl ⟨by rfl, ?hy229⟩) hHeld ?hr229
                          case hy229 => (intro W hSw; (try dsimp only at hSw); go_simp; try with_reducible rfl)
                          try simp only [Act.put, List.setIfInBounds_toArray, List.set_cons_zero, List.set_cons_succ]
                          refine wpAnyH_take (i := 15) (oi := ⟨_, _, _, _, _, _⟩) (v := ?hv230) rfl (by kernel_rfl) (by kernel_rfl) (by kernel_rfl) (fun _ _ _ h => h) (Or.inl ⟨by rfl, ?hy230⟩) hHeld ?hr230
                          case hy230 => (intro W hSw; (try dsimp only at hSw); go_simp; try with_reducible rfl)
                          try simp only [Act.put, List.setIfInBounds_toArray, List.set_cons_zero, List.set_cons_succ]
                          refine wpAnyH_take (i := 16) (oi := ⟨_, _, _, _, _, _⟩) (v := ?hv231) rfl (by kernel_rfl) (by kernel_rfl) (by kernel_rfl) (fun _ _ _ h => h) (Or.inl ⟨by rfl, ?hy231⟩) hHeld ?hr231
                          case hy231 => (intro W hSw; (try dsimp only at hSw); go_simp; try with_reducible rfl)
                          try simp only [Act.put, List.setIfInBounds_toArray, List.set_cons_zero, List.set_cons_succ]
                          refine wpAnyH_ready (rs := [17]) (by kernel_rfl) (by simp) ?_
                          refine AllReadyH.cons (o := ⟨_, _, _, _, _, _⟩) rfl (fun K hK => ?hs232) ?hm232
                          case hs232 =>
                            go_simp
                            skip
                            refine hK.out _ _ ?hS232 (fun hHeld => ?hR232)
                            case hS232 => exact KEEP.out _ (y3.alloc y3.size _)
                            clear hK K
                            try simp only [Act.put, List.setIfInBounds_toArray, List.set_cons_zero, List.set_cons_succ]
                            refine wpAnyH_ready (rs := [18]) (by kernel_rfl) (by simp) ?_
                            refine AllReadyH.cons (o := ⟨_, _, _, _, _, _⟩) rfl (fun K hK => ?hs233) ?hm233
                            case hs233 =>
                              go_simp
                              (with_reducible refine (HdS.out _ _ (World.heap_alloc_new _ _) (y3.alloc y3.size _)).mono ?_)
                              rintro e u4 ⟨rfl, h4⟩
                              have y4 := hop1 y3 y3.size h4
                              go_wp2_with fail
                              refine hK.out _ _ ?hS233 (fun hHeld => ?hR233)
                              case hS233 => exact KEEP.out _ y4
                              clear hK K
                              try simp only [Act.put, List.setIfInBounds_toArray, List.set_cons_zero, List.set_cons_succ]
                              refine wpAnyH_take (i := 19) (oi := ⟨_, _, _, _, _, _⟩) (v := ?hv234) rfl (by kernel_rfl) (by kernel_rfl) (by kernel_rfl) (fun _ _ _ h => h) (Or.inl ⟨by rfl, ?hy234⟩) hHeld ?hr234
                              case hy234 => (intro W hSw; (try dsimp only at hSw); go_simp; try with_reducible rfl)
                              try simp only [Act.put, List.setIfInBounds_toArray, List.set_cons_zero, List.set_cons_succ]
                              refine wpAnyH_take (i := 20) (oi := ⟨_, _, _, _, _, _⟩) (v := ?hv235) rfl (by kernel_rfl) (by kernel_rfl) (by kernel_rfl) (fun _ _ _ h => h) (Or.inl ⟨by rfl, ?hy235⟩) hHeld ?hr235
                              case hy235 => (intro W hSw; (try dsimp only at hSw); go_simp; try with_reducible rfl)
                              try simp only [Act.put, List.setIfInBounds_toArray, List.set_cons_zero, List.set_cons_succ]
                              refine wpAnyH_take (i := 21) (oi := ⟨_, _, _, _, _, _⟩) (v := ?hv236) rfl (by kernel_rfl) (by kernel_rfl) (by kernel_rfl) (fun _ _ _ h => h) (Or.inl ⟨by rfl, ?hy236⟩) hHeld ?hr236
                              case hy236 => (intro W hSw; (try dsimp only at hSw); go_simp; try with_reducible rfl)
                              try simp only [Act.put, List.setIfInBounds_toArray, List.set_cons_zero, List.set_cons_succ]
                              refine wpAnyH_take (i := 22) (oi := ⟨_, _, _, _, _, _⟩) (v := ?hv237) rfl (by kernel_rfl) (by kernel_rfl) (by kernel_rfl) (fun _ _ _ h => h) (Or.inl ⟨by rfl, ?hy237⟩) hHeld ?hr237
                              case hy237 => (intro W hSw; (try dsimp only at hSw); go_simp; try with_reducible rfl)
                              try simp only [Act.put, List.setIfInBounds_toArray, List.set_cons_zero, List.set_cons_succ]
                              refine wpAnyH_take (i := 23) (oi := ⟨_, _, _, _, _, _⟩) (v := ?hv238) rfl (by kernel_rfl) (by kernel_rfl) (by kernel_rfl) (fun _ _ _ h => h) (Or.inl ⟨by rfl, ?hy238⟩) hHeld ?hr238
                              case hy238 => (intro W hSw; (try dsimp only at hSw); go_simp; try with_reducible rfl)
                              try simp only [Act.put, List.setIfInBounds_toArray, List.set_cons_zero, List.set_cons_succ]
                              refine wpAnyH_take (i := 24) (oi := ⟨_, _, _, _, _, _⟩) (v := ?hv239) rfl (by kernel_rfl) (by kernel_rfl) (by kernel_rfl) (fun _ _ _ h => h) (Or.inl ⟨by rfl, ?hy239⟩) hHeld ?hr239
                              case hy239 => (intro W hSw; (try dsimp only at hSw); go_simp; try with_reducible rfl)
                              try simp only [Act.put, List.setIfInBounds_toArray, List.set_cons_zero, List.set_cons_succ]
                              refine wpAnyH_take (i := 27) (oi := ⟨_, _, _, _, _, _⟩) (v := ?hv240) rfl (by kernel_rfl) (by kernel_rfl) (by kernel_rfl) (fun _ _ _ h => h) (Or.inl ⟨by rfl, ?hy240⟩) hHeld ?hr240
                              case hy240 => (intro W hSw; (try dsimp only at hSw); go_simp; try with_reducible rfl)
                              try simp only [Act.put, List.setIfInBounds_toArray, List.set_cons_zero, List.set_cons_succ]
                              refine wpAnyH_take (i := 28) (oi := ⟨_, _, _, _, _, _⟩) (v := ?hv241) rfl (by kernel_rfl) (by kernel_rfl) (by kernel_rfl) (fun _ _ _ h => h) (Or.inl ⟨by rfl, ?hy241⟩) hHeld ?hr241
                              case hy241 => (intro W hSw; (try dsimp only at hSw); go_simp; try with_reducible rfl)
                              try simp only [Act.put, List.setIfInBounds_toArray, List.set_cons_zero, List.set_cons_succ]
                              refine wpAnyH_take (i := 29) (oi := ⟨_, _, _, _, _, _⟩) (v := ?hv242) rfl (by kernel_rfl) (by kernel_rfl) (by kernel_rfl) (fun _ _ _ h => h) (Or.inl ⟨by rfl, ?hy242⟩) hHeld ?hr242
                              case hy242 => (intro W hSw; (try dsimp only at hSw); go_simp; try with_reducible rfl)
                              try simp only [Act.put, List.setIfInBounds_toArray, List.set_cons_zero, List.set_cons_succ]
                              refine wpAnyH_take (i := 30) (oi := ⟨_, _, _, _, _, _⟩) (v := ?hv243) rfl (by kernel_rfl) (by kernel_rfl) (by kernel_rfl) (fun _ _ _ h => h) (Or.inl ⟨by rfl, ?hy243⟩) hHeld ?hr243
                              case hy243 => (intro W hSw; (try dsimp only at hSw); go_simp; try with_reducible rfl)
                              try simp only [Act.put, List.setIfInBounds_toArray, List.set_cons_zero, List.set_cons_succ]
                              refine wpAnyH_ready (rs := [25]) (by kernel_rfl) (by simp) ?_
                              refine AllReadyH.cons (o := ⟨_, _, _, _, _, _⟩) rfl (fun K hK => ?hs244) ?hm244
                              case hs244 =>
                                go_simp
                                skip
                                refine hK.out _ _ ?hS244 (fun hHeld => ?hR244)
                                case hS244 => exact KEEP.out _ (y4.alloc y4.size _)
                                clear hK K
                                try simp only [Act.put, List.setIfInBounds_toArray, List.set_cons_zero, List.set_cons_succ]
                                refine wpAnyH_ready (rs := [26]) (by kernel_rfl) (by simp) ?_
                                refine AllReadyH.cons (o := ⟨_, _, _, _, _, _⟩) rfl (fun K hK => ?hs245) ?hm245
                                case hs245 =>
                                  go_simp
                                  (with_reducible refine (HdO.out _ _ (World.heap_alloc_new _ _) (y4.alloc y4.size _)).mono ?_)
                                  rintro e u5 ⟨rfl, h5⟩
                                  have y5 := hop1 y4 y4.size h5
                                  go_wp2_with fail
                                  refine hK.out _ _ ?hS245 (fun hHeld => ?hR245)
                                  case hS245 => exact KEEP.out _ y5
                                  clear hK K
                                  try simp only [Act.put, List.setIfInBounds_toArray, List.set_cons_zero, List.set_cons_succ]
                                  refine wpAnyH_take (i := 31) (oi := ⟨_, _, _, _, _, _⟩) (v := ?hv246) rfl (by kernel_rfl) (by kernel_rfl) (by kernel_rfl) (fun _ _ _ h => h) (Or.inl ⟨by rfl, ?hy246⟩) hHeld ?hr246
                                  case hy246 => (intro W hSw; (try dsimp only at hSw); go_simp; try with_reducible rfl)
                                  try simp only [Act.put, List.setIfInBounds_toArray, List.set_cons_zero, List.set_cons_succ]
                                  refine wpAnyH_take (i := 32) (oi := ⟨_, _, _, _, _, _⟩) (v := ?hv247) rfl (by kernel_rfl) (by kernel_rfl) (by kernel_rfl) (fun _ _ _ h => h) (Or.inl ⟨by rfl, ?hy247⟩) hHeld ?hr247
                                  case hy247 => (intro W hSw; (try dsimp only at hSw); go_simp; try with_reducible rfl)
                                  try simp only [Act.put, List.setIfInBounds_toArray, List.set_cons_zero, List.set_cons_succ]
                                  refine wpAnyH_done (by kernel_rfl) ?_ _
                                  go_wp2_with fail
                                  go_meet
                                  exact ⟨rfl, y5⟩
                                case hm245 => exact AllReadyH.nil
                              case hm244 => exact AllReadyH.nil
                            case hm233 => exact AllReadyH.nil
                          case hm232 => exact AllReadyH.nil
                        case hm228 => exact AllReadyH.nil
                      case hm227 => exact AllReadyH.nil
                    case hm222 => exact AllReadyH.nil
                  case hm221 => exact AllReadyH.nil
                case hm220 =>
                  refine AllReadyH.cons (o := ⟨_, _, _, _, _, _⟩) rfl (fun K hK => ?hs248) ?hm248
                  case hs248 =>
                    go_simp
                    skip
                    refine hK.out _ _ ?hS248 (fun hHeld => ?hR248)
                    case hS248 => exact KEEP.out _ (al2 yd yd.size)
                    clear hK K
                    try simp only [Act.put, List.setIfInBounds_toArray, List.set_cons_zero, List.set_cons_succ]
                    refine wpAnyH_ready (rs := [3]) (by kernel_rfl) (by simp) ?_
                    refine AllReadyH.cons (o := ⟨_, _, _, _, _, _⟩) rfl (fun K hK => ?hs249) ?hm249
                    case hs249 =>
                      go_simp
                      (with_reducible refine (HdB.out _ _ (heap_alloc2_old _ _ _) (al2 yd yd.size)).mono ?_)
                      rintro e u1 ⟨rfl, h1⟩
                      have z1 := below_same h1 (heap_alloc2_new _ _ _)
                      have y1 := hop2 yd yd.size h1
                      go_wp2_with fail
                      refine hK.out _ _ ?hS249 (fun hHeld => ?hR249)
                      case hS249 => exact KEEP.out _ y1
                      clear hK K
                      try simp only [Act.put, List.setIfInBounds_toArray, List.set_cons_zero, List.set_cons_succ]
                      refine wpAnyH_ready (rs := [7]) (by kernel_rfl) (by simp) ?_
                      refine AllReadyH.cons (o := ⟨_, _, _, _, _, _⟩) rfl (fun K hK => ?hs250) ?hm250
                      case hs250 =>
                        go_simp
                        (with_reducible refine (HdS.out _ _ z1 y1).mono ?_)
                        rintro e u2 ⟨rfl, h2⟩
                        have y2 := y1.trans (h2.mono y1.size)
                        go_wp2_with fail
                        refine hK.out _ _ ?hS250 (fun hHeld => ?hR250)
                        case hS250 => exact KEEP.out _ y2
                        clear hK K
                        try simp only [Act.put, List.setIfInBounds_toArray, List.set_cons_zero, List.set_cons_succ]
                        refine wpAnyH_take (i := 8) (oi := ⟨_, _, _, _, _, _⟩) (v := ?hv251) rfl (by kernel_rfl) (by kernel_rfl) (by kernel_rfl) (fun _ _ _ h => h) (Or.inl ⟨by rfl, ?hy251⟩) hHeld ?hr251
                        case hy251 => (intro W hSw; (try dsimp only at hSw); go_simp; try with_reducible rfl)
                        try simp only [Act.put, List.setIfInBounds_toArray, List.set_cons_zero, List.set_cons_succ]
                        refine wpAnyH_take (i := 9) (oi := ⟨_, _, _, _, _, _⟩) (v := ?hv252) rfl (by kernel_rfl) (by kernel_rfl) (by kernel_rfl) (fun _ _ _ h => h) (Or.inl ⟨by rfl, ?hy252⟩) hHeld ?hr252
                        case hy252 => (intro W hSw; (try dsimp only at hSw); go_simp; try with_reducible rfl)
                        try simp only [Act.put, List.setIfInBounds_toArray, List.set_cons_zero, List.set_cons_succ]
                        refine wpAnyH_take (i := 10) (oi := ⟨_, _, _, _, _, _⟩) (v := ?hv253) rfl (by kernel_rfl) (by kernel_rfl) (by kernel_rfl) (fun _ _ _ h => h) (Or.inl ⟨by rfl, ?hy253⟩) hHeld ?hr253
                        case hy253 => (intro W hSw; (try dsimp only at hSw); go_simp; try with_reducible rfl)
                        try simp only [Act.put, List.setIfInBounds_toArray, List.set_cons_zero, List.set_cons_succ]
                        refine wpAnyH_take (i := 11) (oi := ⟨_, _, _, _, _, _⟩) (v := ?hv254) rfl (by kernel_rfl) (by kernel_rfl) (by kernel_rfl) (fun _ _ _ h => h) (Or.inl ⟨by rfl, ?hy254⟩) hHeld ?hr254
                        case hy254 => (intro W hSw; (try dsimp only at hSw); go_simp; try with_reducible rfl)
                        try simp only [Act.put, List.setIfInBounds_toArray, List.set_cons_zero, List.set_cons_succ]
                        refine wpAnyH_ready (rs := [12]) (by kernel_rfl) (by simp) ?_
                        refine AllReadyH.cons (o := ⟨_, _, _, _, _, _⟩) rfl (fun K hK => ?hs255) ?hm255
                        case hs255 =>
                          go_simp
                          skip
                          refine hK.out _ _ ?hS255 (fun hHeld => ?hR255)
                          case hS255 => exact KEEP.out _ (y2.alloc y2.size _)
                          clear hK K
                          try simp only [Act.put, List.setIfInBounds_toArray, List.set_cons_zero, List.set_cons_succ]
                          refine wpAnyH_ready (rs := [13]) (by kernel_rfl) (by simp) ?_
                          refine AllReadyH.cons (o := ⟨_, _, _, _, _, _⟩) rfl (fun K hK => ?hs256) ?hm256
                          case hs256 =>
                            go_simp
                            (with_reducible refine (HdO.out _ _ (World.heap_alloc_new _ _) (y2.alloc y2.size _)).mono ?_)
                            rintro e u3 ⟨rfl, h3⟩
                            have y3 := hop1 y2 y2.size h3
                            go_wp2_with fail
                            refine hK.out _ _ ?hS256 (fun hHeld => ?hR256)
                            case hS256 => exact KEEP.out _ y3
                            clear hK K
                            try simp only [Act.put, List.setIfInBounds_toArray, List.set_cons_zero, List.set_cons_succ]
                            refine wpAnyH_take (i := 14) (oi := ⟨_, _, _, _, _, _⟩) (v := ?hv257) rfl (by kernel_rfl) (by kernel_rfl) (by kernel_rfl) (fun _ _ _ h => h) (Or.inl ⟨by rfl, ?hy257⟩) hHeld ?hr257
                            case hy257 => (intro W hSw; (try dsimp only at hSw); go_simp; try with_reducible rfl)
                            try simp only [Act.put, List.setIfInBounds_toArray, List.set_cons_zero, List.set_cons_succ]
                            refine wpAnyH_take (i := 15) (oi := ⟨_, _, _, _, _, _⟩) (v := ?hv258) rfl (by kernel_rfl) (by kernel_rfl) (by kernel_rfl) (fun _ _ _ h => h) (Or.inl ⟨by rfl, ?hy258⟩) hHeld ?hr258
                            case hy258 => (intro W hSw; (try dsimp only at hSw); go_simp; try with_reducible rfl)
                            try simp only [Act.put, List.setIfInBounds_toArray, List.set_cons_zero, List.set_cons_succ]
                            refine wpAnyH_take (i := 16) (oi := ⟨_, _, _, _, _, _⟩) (v := ?hv259) rfl (by kernel_rfl) (by kernel_rfl) (by kernel_rfl) (fun _ _ _ h => h) (Or.inl ⟨by rfl, ?hy259⟩) hHeld ?hr259
                            case hy259 => (intro W hSw; (try dsimp only at hSw); go_simp; try with_reducible rfl)
                            try simp only [Act.put, List.setIfInBounds_toArray, List.set_cons_zero, List.set_cons_succ]
                            refine wpAnyH_ready (rs := [17]) (by kernel_rfl) (by simp) ?_
                            refine AllReadyH.cons (o := ⟨_, _, _, _, _, _⟩) rfl (fun K hK => ?hs260) ?hm260
                            case hs260 =>
                              go_simp
                              skip
                              refine hK.out _ _ ?hS260 (fun hHeld => ?hR260)
                              case hS260 => exact KEEP.out _ (y3.alloc y3.size _)
                              clear hK K
                              try simp only [Act.put, List.setIfInBounds_toArray, List.set_cons_zero, List.set_cons_succ]
                              refine wpAnyH_ready (rs := [18]) (by kernel_rfl) (by simp) ?_
                              refine AllReadyH.cons (o := ⟨_, _, _, _, _, _⟩) rfl (fun K hK => ?hs261) ?hm261
                              case hs261 =>
                                go_simp
                                (with_reducible refine (HdS.out _ _ (World.heap_alloc_new _ _) (y3.alloc y3.size _)).mono ?_)
                                rintro e u4 ⟨rfl, h4⟩
                                have y4 := hop1 y3 y3.size h4
                                go_wp2_with fail
                                refine hK.out _ _ ?hS261 (fun hHeld => ?hR261)
                                case hS261 => exact KEEP.out _ y4
                                clear hK K
                                try simp only [Act.put, List.setIfInBounds_toArray, List.set_cons_zero, List.set_cons_succ]
                                refine wpAnyH_take (i := 19) (oi := ⟨_, _, _, _, _, _⟩) (v := ?hv262) rfl (by kernel_rfl) (by kernel_rfl) (by kernel_rfl) (fun _ _ _ h => h) (Or.inl ⟨by rfl, ?hy262⟩) hHeld ?hr262
                                case hy262 => (intro W hSw; (try dsimp only at hSw); go_simp; try with_reducible rfl)
                                try simp only [Act.put, List.setIfInBounds_toArray, List.set_cons_zero, List.set_cons_succ]
                                refine wpAnyH_take (i := 20) (oi := ⟨_, _, _, _, _, _⟩) (v := ?hv263) rfl (by kernel_rfl) (by kernel_rfl) (by kernel_rfl) (fun _ _ _ h => h) (Or.inl ⟨by rfl, ?hy263⟩) hHeld ?hr263
                                case hy263 => (intro W hSw; (try dsimp only at hSw); go_simp; try with_reducible rfl)
                                try simp only [Act.put, List.setIfInBounds_toArray, List.set_cons_zero, List.set_cons_succ]
                                refine wpAnyH_take (i := 21) (oi := ⟨_, _, _, _, _, _⟩) (v := ?hv264) rfl (by kernel_rfl) (by kernel_rfl) (by kernel_rfl) (fun _ _ _ h => h) (Or.inl ⟨by rfl, ?hy264⟩) hHeld ?hr264
                                case hy264 => (intro W hSw; (try dsimp only at hSw); go_simp; try with_reducible rfl)
                                try simp only [Act.put, List.setIfInBounds_toArray, List.set_cons_zero, List.set_cons_succ]
                                refine wpAnyH_take (i := 22) (oi := ⟨_, _, _, _, _, _⟩) (v := ?hv265) rfl (by kernel_rfl) (by kernel_rfl) (by kernel_rfl) (fun _ _ _ h => h) (Or.inl ⟨by rfl, ?hy265⟩) hHeld ?hr265
                                case hy265 => (intro W hSw; (try dsimp only at hSw); go_simp; try with_reducible rfl)
                                try simp only [Act.put, List.setIfInBounds_toArray, List.set_cons_zero, List.set_cons_succ]
                                refine wpAnyH_take (i := 23) (oi := ⟨_, _, _, _, _, _⟩) (v := ?hv266) rfl (by kernel_rfl) (by kernel_rfl) (by kernel_rfl) (fun _ _ _ h => h) (Or.inl ⟨by rfl, ?hy266⟩) hHeld ?hr266
                                case hy266 => (intro W hSw; (try dsimp only at hSw); go_simp; try with_reducible rfl)
                                try simp only [Act.put, List.setIfInBounds_toArray, List.set_cons_zero, List.set_cons_succ]
                                refine wpAnyH_take (i := 24) (oi := ⟨_, _, _, _, _, _⟩) (v := ?hv267) rfl (by kernel_rfl) (by kernel_rfl) (by kernel_rfl) (fun _ _ _ h => h) (Or.inl ⟨by rfl, ?hy267⟩) hHeld ?hr267
                                case hy267 => (intro W hSw; (try dsimp only at hSw); go_simp; try with_reducible rfl)
                                try simp only [Act.put, List.setIfInBounds_toArray, List.set_cons_zero, List.set_cons_succ]
                                refine wpAnyH_take (i := 27) (oi := ⟨_, _, _, _, _, _⟩) (v := ?hv268) rfl (by kernel_rfl) (by kernel_rfl) (by kernel_rfl) (fun _ _ _ h => h) (Or.inl ⟨by rfl, ?hy268⟩) hHeld ?hr268
                                case hy268 => (intro W hSw; (try dsimp only at hSw); go_simp; try with_reducible rfl)
                                try simp only [Act.put, List.setIfInBounds_toArray, List.set_cons_zero, List.set_cons_succ]
                                refine wpAnyH_take (i := 28) (oi := ⟨_, _, _, _, _, _⟩) (v := ?hv269) rfl (by kernel_rfl) (by kernel_rfl) (by kernel_rfl) (fun _ _ _ h => h) (Or.inl ⟨by rfl, ?hy269⟩) hHeld ?hr269
                                case hy269 => (intro W hSw; (try dsimp only at hSw); go_simp; try with_reducible rfl)
                                try simp only [Act.put, List.setIfInBounds_toArray, List.set_cons_zero, List.set_cons_succ]
                                refine wpAnyH_take (i := 29) (oi := ⟨_, _, _, _, _, _⟩) (v := ?hv270) rfl (by kernel_rfl) (by kernel_rfl) (by kernel_rfl) (fun _ _ _ h => h) (Or.inl ⟨by rfl, ?hy270⟩) hHeld ?hr270
                                case hy270 => (intro W hSw; (try dsimp only at hSw); go_simp; try with_reducible rfl)
                                try simp only [Act.put, List.setIfInBounds_toArray, List.set_cons_zero, List.set_cons_succ]
                                refine wpAnyH_take (i := 30) (oi := ⟨_, _, _, _, _, _⟩) (v := ?hv271) rfl (by kernel_rfl) (by kernel_rfl) (by kernel_rfl) (fun _ _ _ h => h) (Or.inl ⟨by rfl, ?hy271⟩) hHeld ?hr271
                                case hy271 => (intro W hSw; (try dsimp only at hSw); go_simp; try with_reducible rfl)
                                try simp only [Act.put, List.setIfInBounds_toArray, List.set_cons_zero, List.set_cons_succ]
                                refine wpAnyH_ready (rs := [25]) (by kernel_rfl) (by simp) ?_
                                refine AllReadyH.cons (o := ⟨_, _, _, _, _, _⟩) rfl (fun K hK => ?hs272) ?hm272
                                case hs272 =>
                                  go_simp
                                  skip
                                  refine hK.out _ _ ?hS272 (fun hHeld => ?hR272)
                                  case hS272 => exact KEEP.out _ (y4.alloc y4.size _)
                                  clear hK K
                                  try simp only [Act.put, List.setIfInBounds_toArray, List.set_cons_zero, List.set_cons_succ]
                                  refine wpAnyH_ready (rs := [26]) (by kernel_rfl) (by simp) ?_
                                  refine AllReadyH.cons (o := ⟨_, _, _, _, _, _⟩) rfl (fun K hK => ?hs273) ?hm273
                                  case hs273 =>
                                    go_simp
                                    (with_reducible refine (HdO.out _ _ (World.heap_alloc_new _ _) (y4.alloc y4.size _)).mono ?_)
                                    rintro e u5 ⟨rfl, h5⟩
                                    have y5 := hop1 y4 y4.size h5
                                    go_wp2_with fail
                                    refine hK.out _ _ ?hS273 (fun hHeld => ?hR273)
                                    case hS273 => exact KEEP.out _ y5
                                    clear hK K
                                    try simp only [Act.put, List.setIfInBounds_toArray, List.set_cons_zero, List.set_cons_succ]
                                    refine wpAnyH_take (i := 31) (oi := ⟨_, _, _, _, _, _⟩) (v := ?hv274) rfl (by kernel_rfl) (by kernel_rfl) (by kernel_rfl) (fun _ _ _ h => h) (Or.inl ⟨by rfl, ?hy274⟩) hHeld ?hr274
                                    case hy274 => (intro W hSw; (try dsimp only at hSw); go_simp; try with_reducible rfl)
                                    try simp only [Act.put, List.setIfInBounds_toArray, List.set_cons_zero, List.set_cons_succ]
                                    refine wpAnyH_take (i := 32) (oi := ⟨_, _, _, _, _, _⟩) (v := ?hv275) rfl (by kernel_rfl) (by kernel_rfl) (by kernel_rfl) (fun _ _ _ h => h) (Or.inl ⟨by rfl, ?hy275⟩) hHeld ?hr275
                                    case hy275 => (intro W hSw; (try dsimp only at hSw); go_simp; try with_reducible rfl)
                                    try simp only [Act.put, List.setIfInBounds_toArray, List.set_cons_zero, List.set_cons_succ]
                                    refine wpAnyH_done (by kernel_rfl) ?_ _
                                    go_wp2_with fail
                                    go_meet
                                    exact ⟨rfl, y5⟩
                                  case hm273 => exact AllReadyH.nil
                                case hm272 => exact AllReadyH.nil
                              case hm261 => exact AllReadyH.nil
                            case hm260 => exact AllReadyH.nil
                          case hm256 => exact AllReadyH.nil
                        case hm255 => exact AllReadyH.nil
                      case hm250 => exact AllReadyH.nil
                    case hm249 => exact AllReadyH.nil
                  case hm248 => exact AllReadyH.nil
              case hm219 =>
                refine AllReadyH.cons (o := ⟨_, _, _, _, _, _⟩) rfl (fun K hK => ?hs276) ?hm276
                case hs276 =>
                  go_simp
                  skip
                  refine hK.out _ _ ?hS276 (fun hHeld => ?hR276)
                  case hS276 => exact KEEP.out _ (yd.alloc yd.size _)
                  clear hK K
                  try simp only [Act.put, List.setIfInBounds_toArray, List.set_cons_zero, List.set_cons_succ]
                  refine wpAnyH_ready (rs := [2]) (by kernel_rfl) (by simp) ?_
                  refine AllReadyH.cons (o := ⟨_, _, _, _, _, _⟩) rfl (fun K hK => ?hs277) ?hm277
                  case hs277 =>
                    go_simp
                    skip
                    refine hK.out _ _ ?hS277 (fun hHeld => ?hR277)
                    case hS277 => exact KEEP.out _ (al2 yd yd.size)
                    clear hK K
                    try simp only [Act.put, List.setIfInBounds_toArray, List.set_cons_zero, List.set_cons_succ]
                    refine wpAnyH_ready (rs := [3]) (by kernel_rfl) (by simp) ?_
                    refine AllReadyH.cons (o := ⟨_, _, _, _, _, _⟩) rfl (fun K hK => ?hs278) ?hm278
                    case hs278 =>
                      go_simp
                      (with_reducible refine (HdB.out _ _ (heap_alloc2_new _ _ _) (al2 yd yd.size)).mono ?_)
                      rintro e u1 ⟨rfl, h1⟩
                      have z1 := below_same h1 (heap_alloc2_old _ _ _)
                      have y1 := hop2 yd yd.size h1
                      go_wp2_with fail
                      refine hK.out _ _ ?hS278 (fun hHeld => ?hR278)
                      case hS278 => exact KEEP.out _ y1
                      clear hK K
                      try simp only [Act.put, List.setIfInBounds_toArray, List.set_cons_zero, List.set_cons_succ]
                      refine wpAnyH_ready (rs := [7]) (by kernel_rfl) (by simp) ?_
                      refine AllReadyH.cons (o := ⟨_, _, _, _, _, _⟩) rfl (fun K hK => ?hs279) ?hm279
                      case hs279 =>
                        go_simp
                        (with_reducible refine (HdS.out _ _ z1 y1).mono ?_)
                        rintro e u2 ⟨rfl, h2⟩
                        have y2 := y1.trans (h2.mono y1.size)
                        go_wp2_with fail
                        refine hK.out _ _ ?hS279 (fun hHeld => ?hR279)
                        case hS279 => exact KEEP.out _ y2
                        clear hK K
                        try simp only [Act.put, List.setIfInBounds_toArray, List.set_cons_zero, List.set_cons_succ]
                        refine wpAnyH_take (i := 8) (oi := ⟨_, _, _, _, _, _⟩) (v := ?hv280) rfl (by kernel_rfl) (by kernel_rfl) (by kernel_rfl) (fun _ _ _ h => h) (Or.inl ⟨by rfl, ?hy280⟩) hHeld ?hr280
                        case hy280 => (intro W hSw; (try dsimp only at hSw); go_simp; try with_reducible rfl)
                        try simp only [Act.put, List.setIfInBounds_toArray, List.set_cons_zero, List.set_cons_succ]
                        refine wpAnyH_take (i := 9) (oi := ⟨_, _, _, _, _, _⟩) (v := ?hv281) rfl (by kernel_rfl) (by kernel_rfl) (by kernel_rfl) (fun _ _ _ h => h) (Or.inl ⟨by rfl, ?hy281⟩) hHeld ?hr281
                        case hy281 => (intro W hSw; (try dsimp only at hSw); go_simp; try with_reducible rfl)
                        try simp only [Act.put, List.setIfInBounds_toArray, List.set_cons_zero, List.set_cons_succ]
                        refine wpAnyH_take (i := 10) (oi := ⟨_, _, _, _, _, _⟩) (v := ?hv282) rfl (by kernel_rfl) (by kernel_rfl) (by kernel_rfl) (fun _ _ _ h => h) (Or.inl ⟨by rfl, ?hy282⟩) hHeld ?hr282
                        case hy282 => (intro W hSw; (try dsimp only at hSw); go_simp; try with_reducible rfl)
                        try simp only [Act.put, List.setIfInBounds_toArray, List.set_cons_zero, List.set_cons_succ]
                        refine wpAnyH_take (i := 11) (oi := ⟨_, _, _, _, _, _⟩) (v := ?hv283) rfl (by kernel_rfl) (by kernel_rfl) (by kernel_rfl) (fun _ _ _ h => h) (Or.inl ⟨by rfl, ?hy283⟩) hHeld ?hr283
                        case hy283 => (intro W hSw; (try dsimp only at hSw); go_simp; try with_reducible rfl)
                        try simp only [Act.put, List.setIfInBounds_toArray, List.set_cons_zero, List.set_cons_succ]
                        refine wpAnyH_ready (rs := [12]) (by kernel_rfl) (by simp) ?_
                        refine AllReadyH.cons (o := ⟨_, _, _, _, _, _⟩) rfl (fun K hK => ?hs284) ?hm284
                        case hs284 =>
                          go_simp
                          skip
                          refine hK.out _ _ ?hS284 (fun hHeld => ?hR284)
                          case hS284 => exact KEEP.out _ (y2.alloc y2.size _)
                          clear hK K
                          try simp only [Act.put, List.setIfInBounds_toArray, List.set_cons_zero, List.set_cons_succ]
                          refine wpAnyH_ready (rs := [13]) (by kernel_rfl) (by simp) ?_
                          refine AllReadyH.cons (o := ⟨_, _, _, _, _, _⟩) rfl (fun K hK => ?hs285) ?hm285
                          case hs285 =>
                            go_simp
                            (with_reducible refine (HdO.out _ _ (World.heap_alloc_new _ _) (y2.alloc y2.size _)).mono ?_)
                            rintro e u3 ⟨rfl, h3⟩
                            have y3 := hop1 y2 y2.size h3
                            go_wp2_with fail
                            refine hK.out _ _ ?hS285 (fun hHeld => ?hR285)
                            case hS285 => exact KEEP.out _ y3
                            clear hK K
                            try simp only [Act.put, List.setIfInBounds_toArray, List.set_cons_zero, List.set_cons_succ]
                            refine wpAnyH_take (i := 14) (oi := ⟨_, _, _, _, _, _⟩) (v := ?hv286) rfl (by kernel_rfl) (by kernel_rfl) (by kernel_rfl) (fun _ _ _ h => h) (Or.inl ⟨by rfl, ?hy286⟩) hHeld ?hr286
                            case hy286 => (intro W hSw; (try dsimp only at hSw); go_simp; try with_reducible rfl)
                            try simp only [Act.put, List.setIfInBounds_toArray, List.set_cons_zero, List.set_cons_succ]
                            refine wpAnyH_take (i := 15) (oi := ⟨_, _, _, _, _, _⟩) (v := ?hv287) rfl (by kernel_rfl) (by kernel_rfl) (by kernel_rfl) (fun _ _ _ h => h) (Or.inl ⟨by rfl, ?hy287⟩) hHeld ?hr287
                            case hy287 => (intro W hSw; (try dsimp only at hSw); go_simp; try with_reducible rfl)
                            try simp only [Act.put, List.setIfInBounds_toArray, List.set_cons_zero, List.set_cons_succ]
                            refine wpAnyH_take (i := 16) (oi := ⟨_, _, _, _, _, _⟩) (v := ?hv288) rfl (by kernel_rfl) (by kernel_rfl) (by kernel_rfl) (fun _ _ _ h => h) (Or.inl ⟨by rfl, ?hy288⟩) hHeld ?hr288
                            case hy288 => (intro W hSw; (try dsimp only at hSw); go_simp; try with_reducible rfl)
                            try simp only [Act.put, List.setIfInBounds_toArray, List.set_cons_zero, List.set_cons_succ]
                            refine wpAnyH_ready (rs := [17]) (by kernel_rfl) (by simp) ?_
                            refine AllReadyH.cons (o := ⟨_, _, _, _, _, _⟩) rfl (fun K hK => ?hs289) ?hm289
                            case hs289 =>
                              go_simp
                              skip
                              refine hK.out _ _ ?hS289 (fun hHeld => ?hR289)
                              case hS289 => exact KEEP.out _ (y3.alloc y3.size _)
                              clear hK K
                              try simp only [Act.put, List.setIfInBounds_toArray, List.set_cons_zero, List.set_cons_succ]
                              refine wpAnyH_ready (rs := [18]) (by kernel_rfl) (by simp) ?_
                              refine AllReadyH.cons (o := ⟨_, _, _, _, _, _⟩) rfl (fun K hK => ?hs290) ?hm290
                              case hs290 =>
                                go_simp
                                (with_reducible refine (HdS.out _ _ (World.heap_alloc_new _ _) (y3.alloc y3.size _)).mono ?_)
                                rintro e u4 ⟨rfl, h4⟩
                                have y4 := hop1 y3 y3.size h4
                                go_wp2_with fail
                                refine hK.out _ _ ?hS290 (fun hHeld => ?hR290)
                                case hS290 => exact KEEP.out _ y4
                                clear hK K
                                try simp only [Act.put, List.setIfInBounds_toArray, List.set_cons_zero, List.set_cons_succ]
                                refine wpAnyH_take (i := 19) (oi := ⟨_, _, _, _, _, _⟩) (v := ?hv291) rfl (by kernel_rfl) (by kernel_rfl) (by kernel_rfl) (fun _ _ _ h => h) (Or.inl ⟨by rfl, ?hy291⟩) hHeld ?hr291
                                case hy291 => (intro W hSw; (try dsimp only at hSw); go_simp; try with_reducible rfl)
                                try simp only [Act.put, List.setIfInBounds_toArray, List.set_cons_zero, List.set_cons_succ]
                                refine wpAnyH_take (i := 20) (oi := ⟨_, _, _, _, _, _⟩) (v := ?hv292) rfl (by kernel_rfl) (by kernel_rfl) (by kernel_rfl) (fun _ _ _ h => h) (Or.inl ⟨by rfl, ?hy292⟩) hHeld ?hr292
                                case hy292 => (intro W hSw; (try dsimp only at hSw); go_simp; try with_reducible rfl)
                                try simp only [Act.put, List.setIfInBounds_toArray, List.set_cons_zero, List.set_cons_succ]
                                refine wpAnyH_take (i := 21) (oi := ⟨_, _, _, _, _, _⟩) (v := ?hv293) rfl (by kernel_rfl) (by kernel_rfl) (by kernel_rfl) (fun _ _ _ h => h) (Or.inl ⟨by rfl, ?hy293⟩) hHeld ?hr293
                                case hy293 => (intro W hSw; (try dsimp only at hSw); go_simp; try with_reducible rfl)
                                try simp only [Act.put, List.setIfInBounds_toArray, List.set_cons_zero, List.set_cons_succ]
                                refine wpAnyH_take (i := 22) (oi := ⟨_, _, _, _, _, _⟩) (v := ?hv294) rfl (by kernel_rfl) (by kernel_rfl) (by kernel_rfl) (fun _ _ _ h => h) (Or.inl ⟨by rfl, ?hy294⟩) hHeld ?hr294
                                case hy294 => (intro W hSw; (try dsimp only at hSw); go_simp; try with_reducible rfl)
                                try simp only [Act.put, List.setIfInBounds_toArray, List.set_cons_zero, List.set_cons_succ]
                                refine wpAnyH_take (i := 23) (oi := ⟨_, _, _, _, _, _⟩) (v := ?hv295) rfl (by kernel_rfl) (by kernel_rfl) (by kernel_rfl) (fun _ _ _ h => h) (Or.inl ⟨by rfl, ?hy295⟩) hHeld ?hr295
                                case hy295 => (intro W hSw; (try dsimp only at hSw); go_simp; try with_reducible rfl)
                                try simp only [Act.put, List.setIfInBounds_toArray, List.set_cons_zero, List.set_cons_succ]
                                refine wpAnyH_take (i := 24) (oi := ⟨_, _, _, _, _, _⟩) (v := ?hv296) rfl (by kernel_rfl) (by kernel_rfl) (by kernel_rfl) (fun _ _ _ h => h) (Or.inl ⟨by rfl, ?hy296⟩) hHeld ?hr296
                                case hy296 => (intro W hSw; (try dsimp only at hSw); go_simp; try with_reducible rfl)
                                try simp only [Act.put, List.setIfInBounds_toArray, List.set_cons_zero, List.set_cons_succ]
                                refine wpAnyH_take (i := 27) (oi := ⟨_, _, _, _, _, _⟩) (v := ?hv297) rfl (by kernel_rfl) (by kernel_rfl) (by kernel_rfl) (fun _ _ _ h => h) (Or.inl ⟨by rfl, ?hy297⟩) hHeld ?hr297
                                case hy297 => (intro W hSw; (try dsimp only at hSw); go_simp; try with_reducible rfl)
                                try simp only [Act.put, List.setIfInBounds_toArray, List.set_cons_zero, List.set_cons_succ]
                                refine wpAnyH_take (i := 28) (oi := ⟨_, _, _, _, _, _⟩) (v := ?hv298) rfl (by kernel_rfl) (by kernel_rfl) (by kernel_rfl) (fun _ _ _ h => h) (Or.inl ⟨by rfl, ?hy298⟩) hHeld ?hr298
                                case hy298 => (intro W hSw; (try dsimp only at hSw); go_simp; try with_reducible rfl)
                                try simp only [Act.put, List.setIfInBounds_toArray, List.set_cons_zero, List.set_cons_succ]
                                refine wpAnyH_take (i := 29) (oi := ⟨_, _, _, _, _, _⟩) (v := ?hv299) rfl (by kernel_rfl) (by kernel_rfl) (by kernel_rfl) (fun _ _ _ h => h) (Or.inl ⟨by rfl, ?hy299⟩) hHeld ?hr299
                                case hy299 => (intro W hSw; (try dsimp only at hSw); go_simp; try with_reducible rfl)
                                try simp only [Act.put, List.setIfInBounds_toArray, List.set_cons_zero, List.set_cons_succ]
                                refine wpAnyH_take (i := 30) (oi := ⟨_, _, _, _, _, _⟩) (v := ?hv300) rfl (by kernel_rfl) (by kernel_rfl) (by kernel_rfl) (fun _ _ _ h => h) (Or.inl ⟨by rfl, ?hy300⟩) hHeld ?hr300
                                case hy300 => (intro W hSw; (try dsimp only at hSw); go_simp; try with_reducible rfl)
                                try simp only [Act.put, List.setIfInBounds_toArray, List.set_cons_zero, List.set_cons_succ]
                                refine wpAnyH_ready (rs := [25]) (by kernel_rfl) (by simp) ?_
                                refine AllReadyH.cons (o := ⟨_, _, _, _, _, _⟩) rfl (fun K hK => ?hs301) ?hm301
                                case hs301 =>
                                  go_simp
                                  skip
                                  refine hK.out _ _ ?hS301 (fun hHeld => ?hR301)
                                  case hS301 => exact KEEP.out _ (y4.alloc y4.size _)
                                  clear hK K
                                  try simp only [Act.put, List.setIfInBounds_toArray, List.set_cons_zero, List.set_cons_succ]
                                  refine wpAnyH_ready (rs := [26]) (by kernel_rfl) (by simp) ?_
                                  refine AllReadyH.cons (o := ⟨_, _, _, _, _, _⟩) rfl (fun K hK => ?hs302) ?hm302
                                  case hs302 =>
                                    go_simp
                                    (with_reducible refine (HdO.out _ _ (World.heap_alloc_new _ _) (y4.alloc y4.size _)).mono ?_)
                                    rintro e u5 ⟨rfl, h5⟩
                                    have y5 := hop1 y4 y4.size h5
                                    go_wp2_with fail
                                    refine hK.out _ _ ?hS302 (fun hHeld => ?hR302)
                                    case hS302 => exact KEEP.out _ y5
                                    clear hK K
                                    try simp only [Act.put, List.setIfInBounds_toArray, List.set_cons_zero, List.set_cons_succ]
                                    refine wpAnyH_take (i := 31) (oi := ⟨_, _, _, _, _, _⟩) (v := ?hv303) rfl (by kernel_rfl) (by kernel_rfl) (by kernel_rfl) (fun _ _ _ h => h) (Or.inl ⟨by rfl, ?hy303⟩) hHeld ?hr303
                                    case hy303 => (intro W hSw; (try dsimp only at hSw); go_simp; try with_reducible rfl)
                                    try simp only [Act.put, List.setIfInBounds_toArray, List.set_cons_zero, List.set_cons_succ]
                                    refine wpAnyH_take (i := 32) (oi := ⟨_, _, _, _, _, _⟩) (v := ?hv304) rfl (by kernel_rfl) (by kernel_rfl) (by kernel_rfl) (fun _ _ _ h => h) (Or.inl ⟨by rfl, ?hy304⟩) hHeld ?hr304
                                    case hy304 => (intro W hSw; (try dsimp only at hSw); go_simp; try with_reducible rfl)
                                    try simp only [Act.put, List.setIfInBounds_toArray, List.set_cons_zero, List.set_cons_succ]
                                    refine wpAnyH_done (by kernel_rfl) ?_ _
                                    go_wp2_with fail
                                    go_meet
                                    exact ⟨rfl, y5⟩
                                  case hm302 => exact AllReadyH.nil
                                case hm301 => exact AllReadyH.nil
                              case hm290 => exact AllReadyH.nil
                            case hm289 => exact AllReadyH.nil
                          case hm285 => exact AllReadyH.nil
                        case hm284 => exact AllReadyH.nil
                      case hm279 => exact AllReadyH.nil
                    case hm278 => exact AllReadyH.nil
                  case hm277 => exact AllReadyH.nil
                case hm276 => exact AllReadyH.nil
          · have dB : ∀ (W : World) (g : Nat), W.heap[g]? = some (.cells #[.string ⟨#[66, 69, 70, 79, 82, 69]⟩, .string ⟨D.toArray⟩] 9 (0, 0)) → Below w1.heap.size w1 W → Calls Tryz.prog 8 #[.slice (some ⟨g, 0, none⟩) 2 2, .pointer (some ⟨w.heap.size, 0, none⟩), .pointer (some ⟨w.heap.size + 1, 0, none⟩), .pointer (some ⟨w.heap.size + 2, 0, none⟩), .pointer (some ⟨w.heap.size + 3, 0, none⟩)] W fun e w' => e = .returned (.bool false) ∧ Below W.heap.size W w' := fun W g hg hW => by
              have hr := hearN_any x fv HLF.out HX.out (.slice (some ⟨g, 0, none⟩) 2 2) [[66, 69, 70, 79, 82, 69], D] w.heap.size (w.heap.size + 1) (w.heap.size + 2) (w.heap.size + 3) W (HW.out W hW) (srow_block (ts := [[66, 69, 70, 79, 82, 69], D]) hg rfl 2 rfl) (by simp) (fun t ht => by
                simp only [List.mem_cons, List.not_mem_nil, or_false] at ht
                rcases ht with rfl | rfl <;> first | exact HSL.out | exact HDL.out | (simp; done))
              rw [show [[66, 69, 70, 79, 82, 69], D].map atomW = [atomW [66, 69, 70, 79, 82, 69], atomW D] from rfl, HG1.out.trans (decide_eq_false (by omega))] at hr
              exact hr
            have HdB := Lib.hid dB
            clear dB
            have dS : ∀ (W : World) (g : Nat), W.heap[g]? = some (.cells #[.string ⟨#[83, 73, 78, 67, 69]⟩, .string ⟨D.toArray⟩] 9 (0, 0)) → Below w1.heap.size w1 W → Calls Tryz.prog 8 #[.slice (some ⟨g, 0, none⟩) 2 2, .pointer (some ⟨w.heap.size, 0, none⟩), .pointer (some ⟨w.heap.size + 1, 0, none⟩), .pointer (some ⟨w.heap.size + 2, 0, none⟩), .pointer (some ⟨w.heap.size + 3, 0, none⟩)] W fun e w' => e = .returned (.bool true) ∧ Below W.heap.size W w' := fun W g hg hW => by
              have hr := hearN_any x fv HLF.out HX.out (.slice (some ⟨g, 0, none⟩) 2 2) [[83, 73, 78, 67, 69], D] w.heap.size (w.heap.size + 1) (w.heap.size + 2) (w.heap.size + 3) W (HW.out W hW) (srow_block (ts := [[83, 73, 78, 67, 69], D]) hg rfl 2 rfl) (by simp) (fun t ht => by
                simp only [List.mem_cons, List.not_mem_nil, or_false] at ht
                rcases ht with rfl | rfl <;> first | exact HSL.out | exact HDL.out | (simp; done))
              rw [show [[83, 73, 78, 67, 69], D].map atomW = [atomW [83, 73, 78, 67, 69], atomW D] from rfl, HG2.out.trans (decide_eq_true (by omega))] at hr
              exact hr
            have HdS := Lib.hid dS
            clear dS
            have dO : ∀ (W : World) (g : Nat), W.heap[g]? = some (.cells #[.string ⟨#[79, 78]⟩, .string ⟨D.toArray⟩] 9 (0, 0)) → Below w1.heap.size w1 W → Calls Tryz.prog 8 #[.slice (some ⟨g, 0, none⟩) 2 2, .pointer (some ⟨w.heap.size, 0, none⟩), .pointer (some ⟨w.heap.size + 1, 0, none⟩), .pointer (some ⟨w.heap.size + 2, 0, none⟩), .pointer (some ⟨w.heap.size + 3, 0, none⟩)] W fun e w' => e = .returned (.bool false) ∧ Below W.heap.size W w' := fun W g hg hW => by
              have hr := hearN_any x fv HLF.out HX.out (.slice (some ⟨g, 0, none⟩) 2 2) [[79, 78], D] w.heap.size (w.heap.size + 1) (w.heap.size + 2) (w.heap.size + 3) W (HW.out W hW) (srow_block (ts := [[79, 78], D]) hg rfl 2 rfl) (by simp) (fun t ht => by
                simp only [List.mem_cons, List.not_mem_nil, or_false] at ht
                rcases ht with rfl | rfl <;> first | exact HSL.out | exact HDL.out | (simp; done))
              rw [show [[79, 78], D].map atomW = [atomW [79, 78], atomW D] from rfl, HG3.out.trans (decide_eq_false (by omega))] at hr
              exact hr
            have HdO := Lib.hid dO
            clear dO
            have e1 : decide (x.day = (q : Int)) = false := decide_eq_false (by omega)
            have e2 : (x.day == (q : Int)) = false := by rw [beq_eq_false_iff_ne]; omega
            clear hd
            as_aux_lemma =>
              have yd := y.drew
              refine wp_region_held_drew (S := fun W => W.cell? ⟨w.heap.size + 1, 0, none⟩ = some (.int .i64 x.which) ∧ W.cell? ⟨w.heap.size + 2, 0, none⟩ = some (.int .i64 x.many) ∧ W.cell? ⟨w.heap.size, 0, none⟩ = some (.int .i64 x.uid) ∧ W.cell? ⟨w.heap.size + 3, 0, none⟩ = some (.int .i64 x.greatest) ∧ W.cell? ⟨w.heap.size, 2, none⟩ = some (.int .i64 x.day) ∧ W.cell? ⟨w.heap.size, 3, none⟩ = some (.string ⟨x.text.toArray⟩)) (by kernel_rfl) (KEEP.out _ yd) (fun hHeld => ?_)
              generalize wc.drew = wd at *
              refine wpAnyH_take (i := 0) (oi := ⟨_, _, _, _, _, _⟩) (v := ?hv305) rfl (by kernel_rfl) (by kernel_rfl) (by kernel_rfl) (fun _ _ _ h => h) (Or.inl ⟨by rfl, ?hy305⟩) hHeld ?hr305
              case hy305 => (intro W hSw; (try dsimp only at hSw); go_simp; try with_reducible rfl)
              try simp only [Act.put, List.setIfInBounds_toArray, List.set_cons_zero, List.set_cons_succ]
              refine wpAnyH_take (i := 1) (oi := ⟨_, _, _, _, _, _⟩) (v := ?hv306) rfl (by kernel_rfl) (by kernel_rfl) (by kernel_rfl) (fun _ _ _ h => h) (Or.inl ⟨by rfl, ?hy306⟩) hHeld ?hr306
              case hy306 => (intro W hSw; (try dsimp only at hSw); go_simp; try with_reducible rfl)
              try simp only [Act.put, List.setIfInBounds_toArray, List.set_cons_zero, List.set_cons_succ]
              refine wpAnyH_take (i := 4) (oi := ⟨_, _, _, _, _, _⟩) (v := ?hv307) rfl (by kernel_rfl) (by kernel_rfl) (by kernel_rfl) (fun _ _ _ h => h) (Or.inl ⟨by rfl, ?hy307⟩) hHeld ?hr307
              case hy307 => (intro W hSw; (try dsimp only at hSw); go_simp; try with_reducible rfl)
              try simp only [Act.put, List.setIfInBounds_toArray, List.set_cons_zero, List.set_cons_succ]
              refine wpAnyH_take (i := 5) (oi := ⟨_, _, _, _, _, _⟩) (v := ?hv308) rfl (by kernel_rfl) (by kernel_rfl) (by kernel_rfl) (fun _ _ _ h => h) (Or.inl ⟨by rfl, ?hy308⟩) hHeld ?hr308
              case hy308 => (intro W hSw; (try dsimp only at hSw); go_simp; try with_reducible rfl)
              try simp only [Act.put, List.setIfInBounds_toArray, List.set_cons_zero, List.set_cons_succ]
              refine wpAnyH_ready (rs := [2, 6]) (by kernel_rfl) (by simp) ?_
              refine AllReadyH.cons (o := ⟨_, _, _, _, _, _⟩) rfl (fun K hK => ?hs309) ?hm309
              case hs309 =>
                go_simp
                skip
                refine hK.out _ _ ?hS309 (fun hHeld => ?hR309)
                case hS309 => exact KEEP.out _ (yd.alloc yd.size _)
                clear hK K
                try simp only [Act.put, List.setIfInBounds_toArray, List.set_cons_zero, List.set_cons_succ]
                refine wpAnyH_ready (rs := [3, 6]) (by kernel_rfl) (by simp) ?_
                refine AllReadyH.cons (o := ⟨_, _, _, _, _, _⟩) rfl (fun K hK => ?hs310) ?hm310
                case hs310 =>
                  go_simp
                  (with_reducible refine (HdB.out _ _ (World.heap_alloc_new _ _) (yd.alloc yd.size _)).mono ?_)
                  rintro e u1 ⟨rfl, h1⟩
                  have y1 := hop1 yd yd.size h1
                  go_wp2_with fail
                  refine hK.out _ _ ?hS310 (fun hHeld => ?hR310)
                  case hS310 => exact KEEP.out _ y1
                  clear hK K
                  try simp only [Act.put, List.setIfInBounds_toArray, List.set_cons_zero, List.set_cons_succ]
                  refine wpAnyH_ready (rs := [6]) (by kernel_rfl) (by simp) ?_
                  refine AllReadyH.cons (o := ⟨_, _, _, _, _, _⟩) rfl (fun K hK => ?hs311) ?hm311
                  case hs311 =>
                    go_simp
                    skip
                    refine hK.out _ _ ?hS311 (fun hHeld => ?hR311)
                    case hS311 => exact KEEP.out _ (y1.alloc y1.size _)
                    clear hK K
                    try simp only [Act.put, List.setIfInBounds_toArray, List.set_cons_zero, List.set_cons_succ]
                    refine wpAnyH_ready (rs := [7]) (by kernel_rfl) (by simp) ?_
                    refine AllReadyH.cons (o := ⟨_, _, _, _, _, _⟩) rfl (fun K hK => ?hs312) ?hm312
                    case hs312 =>
                      go_simp
                      (with_reducible refine (HdS.out _ _ (World.heap_alloc_new _ _) (y1.alloc y1.size _)).mono ?_)
                      rintro e u2 ⟨rfl, h2⟩
                      have y2 := hop1 y1 y1.size h2
                      go_wp2_with fail
                      refine hK.out _ _ ?hS312 (fun hHeld => ?hR312)
                      case hS312 => exact KEEP.out _ y2
                      clear hK K
                      try simp only [Act.put, List.setIfInBounds_toArray, List.set_cons_zero, List.set_cons_succ]
                      refine wpAnyH_take (i := 8) (oi := ⟨_, _, _, _, _, _⟩) (v := ?hv313) rfl (by kernel_rfl) (by kernel_rfl) (by kernel_rfl) (fun _ _ _ h => h) (Or.inl ⟨by rfl, ?hy313⟩) hHeld ?hr313
                      case hy313 => (intro W hSw; (try dsimp only at hSw); go_simp; try with_reducible rfl)
                      try simp only [Act.put, List.setIfInBounds_toArray, List.set_cons_zero, List.set_cons_succ]
                      refine wpAnyH_take (i := 9) (oi := ⟨_, _, _, _, _, _⟩) (v := ?hv314) rfl (by kernel_rfl) (by kernel_rfl) (by kernel_rfl) (fun _ _ _ h => h) (Or.inl ⟨by rfl, ?hy314⟩) hHeld ?hr314
                      case hy314 => (intro W hSw; (try dsimp only at hSw); go_simp; try with_reducible rfl)
                      try simp only [Act.put, List.setIfInBounds_toArray, List.set_cons_zero, List.set_cons_succ]
                      refine wpAnyH_take (i := 10) (oi := ⟨_, _, _, _, _, _⟩) (v := ?hv315) rfl (by kernel_rfl) (by kernel_rfl) (by kernel_rfl) (fun _ _ _ h => h) (Or.inl ⟨by rfl, ?hy315⟩) hHeld ?hr315
                      case hy315 => (intro W hSw; (try dsimp only at hSw); go_simp; try with_reducible rfl)
                      try simp only [Act.put, List.setIfInBounds_toArray, List.set_cons_zero, List.set_cons_succ]
                      refine wpAnyH_take (i := 11) (oi := ⟨_, _, _, _, _, _⟩) (v := ?hv316) rfl (by kernel_rfl) (by kernel_rfl) (by kernel_rfl) (fun _ _ _ h => h) (Or.inl ⟨by rfl, ?hy316⟩) hHeld ?hr316
                      case hy316 => (intro W hSw; (try dsimp only at hSw); go_simp; try with_reducible rfl)
                      try simp only [Act.put, List.setIfInBounds_toArray, List.set_cons_zero, List.set_cons_succ]
                      refine wpAnyH_ready (rs := [12]) (by kernel_rfl) (by simp) ?_
                      refine AllReadyH.cons (o := ⟨_, _, _, _, _, _⟩) rfl (fun K hK => ?hs317) ?hm317
                      case hs317 =>
                        go_simp
                        skip
                        refine hK.out _ _ ?hS317 (fun hHeld => ?hR317)
                        case hS317 => exact KEEP.out _ (y2.alloc y2.size _)
                        clear hK K
                        try simp only [Act.put, List.setIfInBounds_toArray, List.set_cons_zero, List.set_cons_succ]
                        refine wpAnyH_ready (rs := [13]) (by kernel_rfl) (by simp) ?_
                        refine AllReadyH.cons (o := ⟨_, _, _, _, _, _⟩) rfl (fun K hK => ?hs318) ?hm318
                        case hs318 =>
                          go_simp
                          (with_reducible refine (HdO.out _ _ (World.heap_alloc_new _ _) (y2.alloc y2.size _)).mono ?_)
                          rintro e u3 ⟨rfl, h3⟩
                          have y3 := hop1 y2 y2.size h3
                          go_wp2_with fail
                          refine hK.out _ _ ?hS318 (fun hHeld => ?hR318)
                          case hS318 => exact KEEP.out _ y3
                          clear hK K
                          try simp only [Act.put, List.setIfInBounds_toArray, List.set_cons_zero, List.set_cons_succ]
                          refine wpAnyH_take (i := 14) (oi := ⟨_, _, _, _, _, _⟩) (v := ?hv319) rfl (by kernel_rfl) (by kernel_rfl) (by kernel_rfl) (fun _ _ _ h => h) (Or.inl ⟨by rfl, ?hy319⟩) hHeld ?hr319
                          case hy319 => (intro W hSw; (try dsimp only at hSw); go_simp; try with_reducible rfl)
                          try simp only [Act.put, List.setIfInBounds_toArray, List.set_cons_zero, List.set_cons_succ]
                          refine wpAnyH_take (i := 15) (oi := ⟨_, _, _, _, _, _⟩) (v := undef) rfl (by kernel_rfl) (by kernel_rfl) (by kernel_rfl) (fun _ _ _ h => h) (Or.inr ⟨by rfl, rfl⟩) hHeld ?hr320
                          try simp only [Act.put, List.setIfInBounds_toArray, List.set_cons_zero, List.set_cons_succ]
                          refine wpAnyH_take (i := 16) (oi := ⟨_, _, _, _, _, _⟩) (v := undef) rfl (by kernel_rfl) (by kernel_rfl) (by kernel_rfl) (fun _ _ _ h => h) (Or.inr ⟨by rfl, rfl⟩) hHeld ?hr321
                          try simp only [Act.put, List.setIfInBounds_toArray, List.set_cons_zero, List.set_cons_succ]
                          refine wpAnyH_take (i := 17) (oi := ⟨_, _, _, _, _, _⟩) (v := undef) rfl (by kernel_rfl) (by kernel_rfl) (by kernel_rfl) (fun _ _ _ h => h) (Or.inr ⟨by rfl, rfl⟩) hHeld ?hr322
                          try simp only [Act.put, List.setIfInBounds_toArray, List.set_cons_zero, List.set_cons_succ]
                          refine wpAnyH_take (i := 18) (oi := ⟨_, _, _, _, _, _⟩) (v := undef) rfl (by kernel_rfl) (by kernel_rfl) (by kernel_rfl) (fun _ _ _ h => h) (Or.inr ⟨by rfl, rfl⟩) hHeld ?hr323
                          try simp only [Act.put, List.setIfInBounds_toArray, List.set_cons_zero, List.set_cons_succ]
                          refine wpAnyH_take (i := 19) (oi := ⟨_, _, _, _, _, _⟩) (v := undef) rfl (by kernel_rfl) (by kernel_rfl) (by kernel_rfl) (fun _ _ _ h => h) (Or.inr ⟨by rfl, rfl⟩) hHeld ?hr324
                          try simp only [Act.put, List.setIfInBounds_toArray, List.set_cons_zero, List.set_cons_succ]
                          refine wpAnyH_take (i := 20) (oi := ⟨_, _, _, _, _, _⟩) (v := ?hv325) rfl (by kernel_rfl) (by kernel_rfl) (by kernel_rfl) (fun _ _ _ h => h) (Or.inl ⟨by rfl, ?hy325⟩) hHeld ?hr325
                          case hy325 => (intro W hSw; (try dsimp only at hSw); go_simp; try with_reducible rfl)
                          try simp only [Act.put, List.setIfInBounds_toArray, List.set_cons_zero, List.set_cons_succ]
                          refine wpAnyH_take (i := 21) (oi := ⟨_, _, _, _, _, _⟩) (v := ?hv326) rfl (by kernel_rfl) (by kernel_rfl) (by kernel_rfl) (fun _ _ _ h => h) (Or.inl ⟨by rfl, ?hy326⟩) hHeld ?hr326
                          case hy326 => (intro W hSw; (try dsimp only at hSw); go_simp; try with_reducible rfl)
                          try simp only [Act.put, List.setIfInBounds_toArray, List.set_cons_zero, List.set_cons_succ]
                          refine wpAnyH_take (i := 22) (oi := ⟨_, _, _, _, _, _⟩) (v := ?hv327) rfl (by kernel_rfl) (by kernel_rfl) (by kernel_rfl) (fun _ _ _ h => h) (Or.inl ⟨by rfl, ?hy327⟩) hHeld ?hr327
                          case hy327 => (intro W hSw; (try dsimp only at hSw); go_simp; try with_reducible rfl)
                          try simp only [Act.put, List.setIfInBounds_toArray, List.set_cons_zero, List.set_cons_succ]
                          refine wpAnyH_take (i := 23) (oi := ⟨_, _, _, _, _, _⟩) (v := ?hv328) rfl (by kernel_rfl) (by kernel_rfl) (by kernel_rfl) (fun _ _ _ h => h) (Or.inl ⟨by rfl, ?hy328⟩) hHeld ?hr328
                          case hy328 => (intro W hSw; (try dsimp only at hSw); go_simp; try with_reducible rfl)
                          try simp only [Act.put, List.setIfInBounds_toArray, List.set_cons_zero, List.set_cons_succ]
                          refine wpAnyH_take (i := 24) (oi := ⟨_, _, _, _, _, _⟩) (v := ?hv329) rfl (by kernel_rfl) (by kernel_rfl) (by kernel_rfl) (fun _ _ _ h => h) (Or.inl ⟨by rfl, ?hy329⟩) hHeld ?hr329
                          case hy329 => (intro W hSw; (try dsimp only at hSw); go_simp; try with_reducible rfl)
                          try simp only [Act.put, List.setIfInBounds_toArray, List.set_cons_zero, List.set_cons_succ]
                          refine wpAnyH_take (i := 27) (oi := ⟨_, _, _, _, _, _⟩) (v := ?hv330) rfl (by kernel_rfl) (by kernel_rfl) (by kernel_rfl) (fun _ _ _ h => h) (Or.inl ⟨by rfl, ?hy330⟩) hHeld ?hr330
                          case hy330 => (intro W hSw; (try dsimp only at hSw); go_simp; try with_reducible rfl)
                          try simp only [Act.put, List.setIfInBounds_toArray, List.set_cons_zero, List.set_cons_succ]
                          refine wpAnyH_take (i := 28) (oi := ⟨_, _, _, _, _, _⟩) (v := ?hv331) rfl (by kernel_rfl) (by kernel_rfl) (by kernel_rfl) (fun _ _ _ h => h) (Or.inl ⟨by rfl, ?hy331⟩) hHeld ?hr331
                          case hy331 => (intro W hSw; (try dsimp only at hSw); go_simp; try with_reducible rfl)
                          try simp only [Act.put, List.setIfInBounds_toArray, List.set_cons_zero, List.set_cons_succ]
                          refine wpAnyH_take (i := 29) (oi := ⟨_, _, _, _, _, _⟩) (v := ?hv332) rfl (by kernel_rfl) (by kernel_rfl) (by kernel_rfl) (fun _ _ _ h => h) (Or.inl ⟨by rfl, ?hy332⟩) hHeld ?hr332
                          case hy332 => (intro W hSw; (try dsimp only at hSw); go_simp; try with_reducible rfl)
                          try simp only [Act.put, List.setIfInBounds_toArray, List.set_cons_zero, List.set_cons_succ]
                          refine wpAnyH_take (i := 30) (oi := ⟨_, _, _, _, _, _⟩) (v := ?hv333) rfl (by kernel_rfl) (by kernel_rfl) (by kernel_rfl) (fun _ _ _ h => h) (Or.inl ⟨by rfl, ?hy333⟩) hHeld ?hr333
                          case hy333 => (intro W hSw; (try dsimp only at hSw); go_simp; try with_reducible rfl)
                          try simp only [Act.put, List.setIfInBounds_toArray, List.set_cons_zero, List.set_cons_succ]
                          refine wpAnyH_ready (rs := [25]) (by kernel_rfl) (by simp) ?_
                          refine AllReadyH.cons (o := ⟨_, _, _, _, _, _⟩) rfl (fun K hK => ?hs334) ?hm334
                          case hs334 =>
                            go_simp
                            skip
                            refine hK.out _ _ ?hS334 (fun hHeld => ?hR334)
                            case hS334 => exact KEEP.out _ (y3.alloc y3.size _)
                            clear hK K
                            try simp only [Act.put, List.setIfInBounds_toArray, List.set_cons_zero, List.set_cons_succ]
                            refine wpAnyH_ready (rs := [26]) (by kernel_rfl) (by simp) ?_
                            refine AllReadyH.cons (o := ⟨_, _, _, _, _, _⟩) rfl (fun K hK => ?hs335) ?hm335
                            case hs335 =>
                              go_simp
                              (with_reducible refine (HdO.out _ _ (World.heap_alloc_new _ _) (y3.alloc y3.size _)).mono ?_)
                              rintro e u4 ⟨rfl, h4⟩
                              have y4 := hop1 y3 y3.size h4
                              go_wp2_with fail
                              refine hK.out _ _ ?hS335 (fun hHeld => ?hR335)
                              case hS335 => exact KEEP.out _ y4
                              clear hK K
                              try simp only [Act.put, List.setIfInBounds_toArray, List.set_cons_zero, List.set_cons_succ]
                              refine wpAnyH_take (i := 31) (oi := ⟨_, _, _, _, _, _⟩) (v := ?hv336) rfl (by kernel_rfl) (by kernel_rfl) (by kernel_rfl) (fun _ _ _ h => h) (Or.inl ⟨by rfl, ?hy336⟩) hHeld ?hr336
                              case hy336 => (intro W hSw; (try dsimp only at hSw); go_simp; try with_reducible rfl)
                              try simp only [Act.put, List.setIfInBounds_toArray, List.set_cons_zero, List.set_cons_succ]
                              refine wpAnyH_take (i := 32) (oi := ⟨_, _, _, _, _, _⟩) (v := ?hv337) rfl (by kernel_rfl) (by kernel_rfl) (by kernel_rfl) (fun _ _ _ h => h) (Or.inl ⟨by rfl, ?hy337⟩) hHeld ?hr337
                              case hy337 => (intro W hSw; (try dsimp only at hSw); go_simp; try with_reducible rfl)
                              try simp only [Act.put, List.setIfInBounds_toArray, List.set_cons_zero, List.set_cons_succ]
                              refine wpAnyH_done (by kernel_rfl) ?_ _
                              go_wp2_with fail
                              go_meet
                              exact ⟨rfl, y4⟩
                            case hm335 => exact AllReadyH.nil
                          case hm334 => exact AllReadyH.nil
                        case hm318 => exact AllReadyH.nil
                      case hm317 => exact AllReadyH.nil
                    case hm312 => exact AllReadyH.nil
                  case hm311 => exact AllReadyH.nil
                case hm310 =>
                  refine AllReadyH.cons (o := ⟨_, _, _, _, _, _⟩) rfl (fun K hK => ?hs338) ?hm338
                  case hs338 =>
                    go_simp
                    skip
                    refine hK.out _ _ ?hS338 (fun hHeld => ?hR338)
                    case hS338 => exact KEEP.out _ (al2 yd yd.size)
                    clear hK K
                    try simp only [Act.put, List.setIfInBounds_toArray, List.set_cons_zero, List.set_cons_succ]
                    refine wpAnyH_ready (rs := [3]) (by kernel_rfl) (by simp) ?_
                    refine AllReadyH.cons (o := ⟨_, _, _, _, _, _⟩) rfl (fun K hK => ?hs339) ?hm339
                    case hs339 =>
                      go_simp
                      (with_reducible refine (HdB.out _ _ (heap_alloc2_old _ _ _) (al2 yd yd.size)).mono ?_)
                      rintro e u1 ⟨rfl, h1⟩
                      have z1 := below_same h1 (heap_alloc2_new _ _ _)
                      have y1 := hop2 yd yd.size h1
                      go_wp2_with fail
                      refine hK.out _ _ ?hS339 (fun hHeld => ?hR339)
                      case hS339 => exact KEEP.out _ y1
                      clear hK K
                      try simp only [Act.put, List.setIfInBounds_toArray, List.set_cons_zero, List.set_cons_succ]
                      refine wpAnyH_ready (rs := [7]) (by kernel_rfl) (by simp) ?_
                      refine AllReadyH.cons (o := ⟨_, _, _, _, _, _⟩) rfl (fun K hK => ?hs340) ?hm340
                      case hs340 =>
                        go_simp
                        (with_reducible refine (HdS.out _ _ z1 y1).mono ?_)
                        rintro e u2 ⟨rfl, h2⟩
                        have y2 := y1.trans (h2.mono y1.size)
                        go_wp2_with fail
                        refine hK.out _ _ ?hS340 (fun hHeld => ?hR340)
                        case hS340 => exact KEEP.out _ y2
                        clear hK K
                        try simp only [Act.put, List.setIfInBounds_toArray, List.set_cons_zero, List.set_cons_succ]
                        refine wpAnyH_take (i := 8) (oi := ⟨_, _, _, _, _, _⟩) (v := ?hv341) rfl (by kernel_rfl) (by kernel_rfl) (by kernel_rfl) (fun _ _ _ h => h) (Or.inl ⟨by rfl, ?hy341⟩) hHeld ?hr341
                        case hy341 => (intro W hSw; (try dsimp only at hSw); go_simp; try with_reducible rfl)
                        try simp only [Act.put, List.setIfInBounds_toArray, List.set_cons_zero, List.set_cons_succ]
                        refine wpAnyH_take (i := 9) (oi := ⟨_, _, _, _, _, _⟩) (v := ?hv342) rfl (by kernel_rfl) (by kernel_rfl) (by kernel_rfl) (fun _ _ _ h => h) (Or.inl ⟨by rfl, ?hy342⟩) hHeld ?hr342
                        case hy342 => (intro W hSw; (try dsimp only at hSw); go_simp; try with_reducible rfl)
                        try simp only [Act.put, List.setIfInBounds_toArray, List.set_cons_zero, List.set_cons_succ]
                        refine wpAnyH_take (i := 10) (oi := ⟨_, _, _, _, _, _⟩) (v := ?hv343) rfl (by kernel_rfl) (by kernel_rfl) (by kernel_rfl) (fun _ _ _ h => h) (Or.inl ⟨by rfl, ?hy343⟩) hHeld ?hr343
                        case hy343 => (intro W hSw; (try dsimp only at hSw); go_simp; try with_reducible rfl)
                        try simp only [Act.put, List.setIfInBounds_toArray, List.set_cons_zero, List.set_cons_succ]
                        refine wpAnyH_take (i := 11) (oi := ⟨_, _, _, _, _, _⟩) (v := ?hv344) rfl (by kernel_rfl) (by kernel_rfl) (by kernel_rfl) (fun _ _ _ h => h) (Or.inl ⟨by rfl, ?hy344⟩) hHeld ?hr344
                        case hy344 => (intro W hSw; (try dsimp only at hSw); go_simp; try with_reducible rfl)
                        try simp only [Act.put, List.setIfInBounds_toArray, List.set_cons_zero, List.set_cons_succ]
                        refine wpAnyH_ready (rs := [12]) (by kernel_rfl) (by simp) ?_
                        refine AllReadyH.cons (o := ⟨_, _, _, _, _, _⟩) rfl (fun K hK => ?hs345) ?hm345
                        case hs345 =>
                          go_simp
                          skip
                          refine hK.out _ _ ?hS345 (fun hHeld => ?hR345)
                          case hS345 => exact KEEP.out _ (y2.alloc y2.size _)
                          clear hK K
                          try simp only [Act.put, List.setIfInBounds_toArray, List.set_cons_zero, List.set_cons_succ]
                          refine wpAnyH_ready (rs := [13]) (by kernel_rfl) (by simp) ?_
                          refine AllReadyH.cons (o := ⟨_, _, _, _, _, _⟩) rfl (fun K hK => ?hs346) ?hm346
                          case hs346 =>
                            go_simp
                            (with_reducible refine (HdO.out _ _ (World.heap_alloc_new _ _) (y2.alloc y2.size _)).mono ?_)
                            rintro e u3 ⟨rfl, h3⟩
                            have y3 := hop1 y2 y2.size h3
                            go_wp2_with fail
                            refine hK.out _ _ ?hS346 (fun hHeld => ?hR346)
                            case hS346 => exact KEEP.out _ y3
                            clear hK K
                            try simp only [Act.put, List.setIfInBounds_toArray, List.set_cons_zero, List.set_cons_succ]
                            refine wpAnyH_take (i := 14) (oi := ⟨_, _, _, _, _, _⟩) (v := ?hv347) rfl (by kernel_rfl) (by kernel_rfl) (by kernel_rfl) (fun _ _ _ h => h) (Or.inl ⟨by rfl, ?hy347⟩) hHeld ?hr347
                            case hy347 => (intro W hSw; (try dsimp only at hSw); go_simp; try with_reducible rfl)
                            try simp only [Act.put, List.setIfInBounds_toArray, List.set_cons_zero, List.set_cons_succ]
                            refine wpAnyH_take (i := 15) (oi := ⟨_, _, _, _, _, _⟩) (v := undef) rfl (by kernel_rfl) (by kernel_rfl) (by kernel_rfl) (fun _ _ _ h => h) (Or.inr ⟨by rfl, rfl⟩) hHeld ?hr348
                            try simp only [Act.put, List.setIfInBounds_toArray, List.set_cons_zero, List.set_cons_succ]
                            refine wpAnyH_take (i := 16) (oi := ⟨_, _, _, _, _, _⟩) (v := undef) rfl (by kernel_rfl) (by kernel_rfl) (by kernel_rfl) (fun _ _ _ h => h) (Or.inr ⟨by rfl, rfl⟩) hHeld ?hr349
                            try simp only [Act.put, List.setIfInBounds_toArray, List.set_cons_zero, List.set_cons_succ]
                            refine wpAnyH_take (i := 17) (oi := ⟨_, _, _, _, _, _⟩) (v := undef) rfl (by kernel_rfl) (by kernel_rfl) (by kernel_rfl) (fun _ _ _ h => h) (Or.inr ⟨by rfl, rfl⟩) hHeld ?hr350
                            try simp only [Act.put, List.setIfInBounds_toArray, List.set_cons_zero, List.set_cons_succ]
                            refine wpAnyH_take (i := 18) (oi := ⟨_, _, _, _, _, _⟩) (v := undef) rfl (by kernel_rfl) (by kernel_rfl) (by kernel_rfl) (fun _ _ _ h => h) (Or.inr ⟨by rfl, rfl⟩) hHeld ?hr351
                            try simp only [Act.put, List.setIfInBounds_toArray, List.set_cons_zero, List.set_cons_succ]
                            refine wpAnyH_take (i := 19) (oi := ⟨_, _, _, _, _, _⟩) (v := undef) rfl (by kernel_rfl) (by kernel_rfl) (by kernel_rfl) (fun _ _ _ h => h) (Or.inr ⟨by rfl, rfl⟩) hHeld ?hr352
                            try simp only [Act.put, List.setIfInBounds_toArray, List.set_cons_zero, List.set_cons_succ]
                            refine wpAnyH_take (i := 20) (oi := ⟨_, _, _, _, _, _⟩) (v := ?hv353) rfl (by kernel_rfl) (by kernel_rfl) (by kernel_rfl) (fun _ _ _ h => h) (Or.inl ⟨by rfl, ?hy353⟩) hHeld ?hr353
                            case hy353 => (intro W hSw; (try dsimp only at hSw); go_simp; try with_reducible rfl)
                            try simp only [Act.put, List.setIfInBounds_toArray, List.set_cons_zero, List.set_cons_succ]
                            refine wpAnyH_take (i := 21) (oi := ⟨_, _, _, _, _, _⟩) (v := ?hv354) rfl (by kernel_rfl) (by kernel_rfl) (by kernel_rfl) (fun _ _ _ h => h) (Or.inl ⟨by rfl, ?hy354⟩) hHeld ?hr354
                            case hy354 => (intro W hSw; (try dsimp only at hSw); go_simp; try with_reducible rfl)
                            try simp only [Act.put, List.setIfInBounds_toArray, List.set_cons_zero, List.set_cons_succ]
                            refine wpAnyH_take (i := 22) (oi := ⟨_, _, _, _, _, _⟩) (v := ?hv355) rfl (by kernel_rfl) (by kernel_rfl) (by kernel_rfl) (fun _ _ _ h => h) (Or.inl ⟨by rfl, ?hy355⟩) hHeld ?hr355
                            case hy355 => (intro W hSw; (try dsimp only at hSw); go_simp; try with_reducible rfl)
                            try simp only [Act.put, List.setIfInBounds_toArray, List.set_cons_zero, List.set_cons_succ]
                            refine wpAnyH_take (i := 23) (oi := ⟨_, _, _, _, _, _⟩) (v := ?hv356) rfl (by kernel_rfl) (by kernel_rfl) (by kernel_rfl) (fun _ _ _ h => h) (Or.inl ⟨by rfl, ?hy356⟩) hHeld ?hr356
                            case hy356 => (intro W hSw; (try dsimp only at hSw); go_simp; try with_reducible rfl)
                            try simp only [Act.put, List.setIfInBounds_toArray, List.set_cons_zero, List.set_cons_succ]
                            refine wpAnyH_take (i := 24) (oi := ⟨_, _, _, _, _, _⟩) (v := ?hv357) rfl (by kernel_rfl) (by kernel_rfl) (by kernel_rfl) (fun _ _ _ h => h) (Or.inl ⟨by rfl, ?hy357⟩) hHeld ?hr357
                            case hy357 => (intro W hSw; (try dsimp only at hSw); go_simp; try with_reducible rfl)
                            try simp only [Act.put, List.setIfInBounds_toArray, List.set_cons_zero, List.set_cons_succ]
                            refine wpAnyH_take (i := 27) (oi := ⟨_, _, _, _, _, _⟩) (v := ?hv358) rfl (by kernel_rfl) (by kernel_rfl) (by kernel_rfl) (fun _ _ _ h => h) (Or.inl ⟨by rfl, ?hy358⟩) hHeld ?hr358
                            case hy358 => (intro W hSw; (try dsimp only at hSw); go_simp; try with_reducible rfl)
                            try simp only [Act.put, List.setIfInBounds_toArray, List.set_cons_zero, List.set_cons_succ]
                            refine wpAnyH_take (i := 28) (oi := ⟨_, _, _, _, _, _⟩) (v := ?hv359) rfl (by kernel_rfl) (by kernel_rfl) (by kernel_rfl) (fun _ _ _ h => h) (Or.inl ⟨by rfl, ?hy359⟩) hHeld ?hr359
                            case hy359 => (intro W hSw; (try dsimp only at hSw); go_simp; try with_reducible rfl)
                            try simp only [Act.put, List.setIfInBounds_toArray, List.set_cons_zero, List.set_cons_succ]
                            refine wpAnyH_take (i := 29) (oi := ⟨_, _, _, _, _, _⟩) (v := ?hv360) rfl (by kernel_rfl) (by kernel_rfl) (by kernel_rfl) (fun _ _ _ h => h) (Or.inl ⟨by rfl, ?hy360⟩) hHeld ?hr360
                            case hy360 => (intro W hSw; (try dsimp only at hSw); go_simp; try with_reducible rfl)
                            try simp only [Act.put, List.setIfInBounds_toArray, List.set_cons_zero, List.set_cons_succ]
                            refine wpAnyH_take (i := 30) (oi := ⟨_, _, _, _, _, _⟩) (v := ?hv361) rfl (by kernel_rfl) (by kernel_rfl) (by kernel_rfl) (fun _ _ _ h => h) (Or.inl ⟨by rfl, ?hy361⟩) hHeld ?hr361
                            case hy361 => (intro W hSw; (try dsimp only at hSw); go_simp; try with_reducible rfl)
                            try simp only [Act.put, List.setIfInBounds_toArray, List.set_cons_zero, List.set_cons_succ]
                            refine wpAnyH_ready (rs := [25]) (by kernel_rfl) (by simp) ?_
                            refine AllReadyH.cons (o := ⟨_, _, _, _, _, _⟩) rfl (fun K hK => ?hs362) ?hm362
                            case hs362 =>
                              go_simp
                              skip
                              refine hK.out _ _ ?hS362 (fun hHeld => ?hR362)
                              case hS362 => exact KEEP.out _ (y3.alloc y3.size _)
                              clear hK K
                              try simp only [Act.put, List.setIfInBounds_toArray, List.set_cons_zero, List.set_cons_succ]
                              refine wpAnyH_ready (rs := [26]) (by kernel_rfl) (by simp) ?_
                              refine AllReadyH.cons (o := ⟨_, _, _, _, _, _⟩) rfl (fun K hK => ?hs363) ?hm363
                              case hs363 =>
                                go_simp
                                (with_reducible refine (HdO.out _ _ (World.heap_alloc_new _ _) (y3.alloc y3.size _)).mono ?_)
                                rintro e u4 ⟨rfl, h4⟩
                                have y4 := hop1 y3 y3.size h4
                                go_wp2_with fail
                                refine hK.out _ _ ?hS363 (fun hHeld => ?hR363)
                                case hS363 => exact KEEP.out _ y4
                                clear hK K
                                try simp only [Act.put, List.setIfInBounds_toArray, List.set_cons_zero, List.set_cons_succ]
                                refine wpAnyH_take (i := 31) (oi := ⟨_, _, _, _, _, _⟩) (v := ?hv364) rfl (by kernel_rfl) (by kernel_rfl) (by kernel_rfl) (fun _ _ _ h => h) (Or.inl ⟨by rfl, ?hy364⟩) hHeld ?hr364
                                case hy364 => (intro W hSw; (try dsimp only at hSw); go_simp; try with_reducible rfl)
                                try simp only [Act.put, List.setIfInBounds_toArray, List.set_cons_zero, List.set_cons_succ]
                                refine wpAnyH_take (i := 32) (oi := ⟨_, _, _, _, _, _⟩) (v := ?hv365) rfl (by kernel_rfl) (by kernel_rfl) (by kernel_rfl) (fun _ _ _ h => h) (Or.inl ⟨by rfl, ?hy365⟩) hHeld ?hr365
                                case hy365 => (intro W hSw; (try dsimp only at hSw); go_simp; try with_reducible rfl)
                                try simp only [Act.put, List.setIfInBounds_toArray, List.set_cons_zero, List.set_cons_succ]
                                refine wpAnyH_done (by kernel_rfl) ?_ _
                                go_wp2_with fail
                                go_meet
                                exact ⟨rfl, y4⟩
                              case hm363 => exact AllReadyH.nil
                            case hm362 => exact AllReadyH.nil
                          case hm346 => exact AllReadyH.nil
                        case hm345 => exact AllReadyH.nil
                      case hm340 => exact AllReadyH.nil
                    case hm339 => exact AllReadyH.nil
                  case hm338 => exact AllReadyH.nil
              case hm309 =>
                refine AllReadyH.cons (o := ⟨_, _, _, _, _, _⟩) rfl (fun K hK => ?hs366) ?hm366
                case hs366 =>
                  go_simp
                  skip
                  refine hK.out _ _ ?hS366 (fun hHeld => ?hR366)
                  case hS366 => exact KEEP.out _ (yd.alloc yd.size _)
                  clear hK K
                  try simp only [Act.put, List.setIfInBounds_toArray, List.set_cons_zero, List.set_cons_succ]
                  refine wpAnyH_ready (rs := [2]) (by kernel_rfl) (by simp) ?_
                  refine AllReadyH.cons (o := ⟨_, _, _, _, _, _⟩) rfl (fun K hK => ?hs367) ?hm367
                  case hs367 =>
                    go_simp
                    skip
                    refine hK.out _ _ ?hS367 (fun hHeld => ?hR367)
                    case hS367 => exact KEEP.out _ (al2 yd yd.size)
                    clear hK K
                    try simp only [Act.put, List.setIfInBounds_toArray, List.set_cons_zero, List.set_cons_succ]
                    refine wpAnyH_ready (rs := [3]) (by kernel_rfl) (by simp) ?_
                    refine AllReadyH.cons (o := ⟨_, _, _, _, _, _⟩) rfl (fun K hK => ?hs368) ?hm368
                    case hs368 =>
                      go_simp
                      (with_reducible refine (HdB.out _ _ (heap_alloc2_new _ _ _) (al2 yd yd.size)).mono ?_)
                      rintro e u1 ⟨rfl, h1⟩
                      have z1 := below_same h1 (heap_alloc2_old _ _ _)
                      have y1 := hop2 yd yd.size h1
                      go_wp2_with fail
                      refine hK.out _ _ ?hS368 (fun hHeld => ?hR368)
                      case hS368 => exact KEEP.out _ y1
                      clear hK K
                      try simp only [Act.put, List.setIfInBounds_toArray, List.set_cons_zero, List.set_cons_succ]
                      refine wpAnyH_ready (rs := [7]) (by kernel_rfl) (by simp) ?_
                      refine AllReadyH.cons (o := ⟨_, _, _, _, _, _⟩) rfl (fun K hK => ?hs369) ?hm369
                      case hs369 =>
                        go_simp
                        (with_reducible refine (HdS.out _ _ z1 y1).mono ?_)
                        rintro e u2 ⟨rfl, h2⟩
                        have y2 := y1.trans (h2.mono y1.size)
                        go_wp2_with fail
                        refine hK.out _ _ ?hS369 (fun hHeld => ?hR369)
                        case hS369 => exact KEEP.out _ y2
                        clear hK K
                        try simp only [Act.put, List.setIfInBounds_toArray, List.set_cons_zero, List.set_cons_succ]
                        refine wpAnyH_take (i := 8) (oi := ⟨_, _, _, _, _, _⟩) (v := ?hv370) rfl (by kernel_rfl) (by kernel_rfl) (by kernel_rfl) (fun _ _ _ h => h) (Or.inl ⟨by rfl, ?hy370⟩) hHeld ?hr370
                        case hy370 => (intro W hSw; (try dsimp only at hSw); go_simp; try with_reducible rfl)
                        try simp only [Act.put, List.setIfInBounds_toArray, List.set_cons_zero, List.set_cons_succ]
                        refine wpAnyH_take (i := 9) (oi := ⟨_, _, _, _, _, _⟩) (v := ?hv371) rfl (by kernel_rfl) (by kernel_rfl) (by kernel_rfl) (fun _ _ _ h => h) (Or.inl ⟨by rfl, ?hy371⟩) hHeld ?hr371
                        case hy371 => (intro W hSw; (try dsimp only at hSw); go_simp; try with_reducible rfl)
                        try simp only [Act.put, List.setIfInBounds_toArray, List.set_cons_zero, List.set_cons_succ]
                        refine wpAnyH_take (i := 10) (oi := ⟨_, _, _, _, _, _⟩) (v := ?hv372) rfl (by kernel_rfl) (by kernel_rfl) (by kernel_rfl) (fun _ _ _ h => h) (Or.inl ⟨by rfl, ?hy372⟩) hHeld ?hr372
                        case hy372 => (intro W hSw; (try dsimp only at hSw); go_simp; try with_reducible rfl)
                        try simp only [Act.put, List.setIfInBounds_toArray, List.set_cons_zero, List.set_cons_succ]
                        refine wpAnyH_take (i := 11) (oi := ⟨_, _, _, _, _, _⟩) (v := ?hv373) rfl (by kernel_rfl) (by kernel_rfl) (by kernel_rfl) (fun _ _ _ h => h) (Or.inl ⟨by rfl, ?hy373⟩) hHeld ?hr373
                        case hy373 => (intro W hSw; (try dsimp only at hSw); go_simp; try with_reducible rfl)
                        try simp only [Act.put, List.setIfInBounds_toArray, List.set_cons_zero, List.set_cons_succ]
                        refine wpAnyH_ready (rs := [12]) (by kernel_rfl) (by simp) ?_
                        refine AllReadyH.cons (o := ⟨_, _, _, _, _, _⟩) rfl (fun K hK => ?hs374) ?hm374
                        case hs374 =>
                          go_simp
                          skip
                          refine hK.out _ _ ?hS374 (fun hHeld => ?hR374)
                          case hS374 => exact KEEP.out _ (y2.alloc y2.size _)
                          clear hK K
                          try simp only [Act.put, List.setIfInBounds_toArray, List.set_cons_zero, List.set_cons_succ]
                          refine wpAnyH_ready (rs := [13]) (by kernel_rfl) (by simp) ?_
                          refine AllReadyH.cons (o := ⟨_, _, _, _, _, _⟩) rfl (fun K hK => ?hs375) ?hm375
                          case hs375 =>
                            go_simp
                            (with_reducible refine (HdO.out _ _ (World.heap_alloc_new _ _) (y2.alloc y2.size _)).mono ?_)
                            rintro e u3 ⟨rfl, h3⟩
                            have y3 := hop1 y2 y2.size h3
                            go_wp2_with fail
                            refine hK.out _ _ ?hS375 (fun hHeld => ?hR375)
                            case hS375 => exact KEEP.out _ y3
                            clear hK K
                            try simp only [Act.put, List.setIfInBounds_toArray, List.set_cons_zero, List.set_cons_succ]
                            refine wpAnyH_take (i := 14) (oi := ⟨_, _, _, _, _, _⟩) (v := ?hv376) rfl (by kernel_rfl) (by kernel_rfl) (by kernel_rfl) (fun _ _ _ h => h) (Or.inl ⟨by rfl, ?hy376⟩) hHeld ?hr376
                            case hy376 => (intro W hSw; (try dsimp only at hSw); go_simp; try with_reducible rfl)
                            try simp only [Act.put, List.setIfInBounds_toArray, List.set_cons_zero, List.set_cons_succ]
                            refine wpAnyH_take (i := 15) (oi := ⟨_, _, _, _, _, _⟩) (v := undef) rfl (by kernel_rfl) (by kernel_rfl) (by kernel_rfl) (fun _ _ _ h => h) (Or.inr ⟨by rfl, rfl⟩) hHeld ?hr377
                            try simp only [Act.put, List.setIfInBounds_toArray, List.set_cons_zero, List.set_cons_succ]
                            refine wpAnyH_take (i := 16) (oi := ⟨_, _, _, _, _, _⟩) (v := undef) rfl (by kernel_rfl) (by kernel_rfl) (by kernel_rfl) (fun _ _ _ h => h) (Or.inr ⟨by rfl, rfl⟩) hHeld ?hr378
                            try simp only [Act.put, List.setIfInBounds_toArray, List.set_cons_zero, List.set_cons_succ]
                            refine wpAnyH_take (i := 17) (oi := ⟨_, _, _, _, _, _⟩) (v := undef) rfl (by kernel_rfl) (by kernel_rfl) (by kernel_rfl) (fun _ _ _ h => h) (Or.inr ⟨by rfl, rfl⟩) hHeld ?hr379
                            try simp only [Act.put, List.setIfInBounds_toArray, List.set_cons_zero, List.set_cons_succ]
                            refine wpAnyH_take (i := 18) (oi := ⟨_, _, _, _, _, _⟩) (v := undef) rfl (by kernel_rfl) (by kernel_rfl) (by kernel_rfl) (fun _ _ _ h => h) (Or.inr ⟨by rfl, rfl⟩) hHeld ?hr380
                            try simp only [Act.put, List.setIfInBounds_toArray, List.set_cons_zero, List.set_cons_succ]
                            refine wpAnyH_take (i := 19) (oi := ⟨_, _, _, _, _, _⟩) (v := undef) rfl (by kernel_rfl) (by kernel_rfl) (by kernel_rfl) (fun _ _ _ h => h) (Or.inr ⟨by rfl, rfl⟩) hHeld ?hr381
                            try simp only [Act.put, List.setIfInBounds_toArray, List.set_cons_zero, List.set_cons_succ]
                            refine wpAnyH_take (i := 20) (oi := ⟨_, _, _, _, _, _⟩) (v := ?hv382) rfl (by kernel_rfl) (by kernel_rfl) (by kernel_rfl) (fun _ _ _ h => h) (Or.inl ⟨by rfl, ?hy382⟩) hHeld ?hr382
                            case hy382 => (intro W hSw; (try dsimp only at hSw); go_simp; try with_reducible rfl)
                            try simp only [Act.put, List.setIfInBounds_toArray, List.set_cons_zero, List.set_cons_succ]
                            refine wpAnyH_take (i := 21) (oi := ⟨_, _, _, _, _, _⟩) (v := ?hv383) rfl (by kernel_rfl) (by kernel_rfl) (by kernel_rfl) (fun _ _ _ h => h) (Or.inl ⟨by rfl, ?hy383⟩) hHeld ?hr383
                            case hy383 => (intro W hSw; (try dsimp only at hSw); go_simp; try with_reducible rfl)
                            try simp only [Act.put, List.setIfInBounds_toArray, List.set_cons_zero, List.set_cons_succ]
                            refine wpAnyH_take (i := 22) (oi := ⟨_, _, _, _, _, _⟩) (v := ?hv384) rfl (by kernel_rfl) (by kernel_rfl) (by kernel_rfl) (fun _ _ _ h => h) (Or.inl ⟨by rfl, ?hy384⟩) hHeld ?hr384
                            case hy384 => (intro W hSw; (try dsimp only at hSw); go_simp; try with_reducible rfl)
                            try simp only [Act.put, List.setIfInBounds_toArray, List.set_cons_zero, List.set_cons_succ]
                            refine wpAnyH_take (i := 23) (oi := ⟨_, _, _, _, _, _⟩) (v := ?hv385) rfl (by kernel_rfl) (by kernel_rfl) (by kernel_rfl) (fun _ _ _ h => h) (Or.inl ⟨by rfl, ?hy385⟩) hHeld ?hr385
                            case hy385 => (intro W hSw; (try dsimp only at hSw); go_simp; try with_reducible rfl)
                            try simp only [Act.put, List.setIfInBounds_toArray, List.set_cons_zero, List.set_cons_succ]
                            refine wpAnyH_take (i := 24) (oi := ⟨_, _, _, _, _, _⟩) (v := ?hv386) rfl (by kernel_rfl) (by kernel_rfl) (by kernel_rfl) (fun _ _ _ h => h) (Or.inl ⟨by rfl, ?hy386⟩) hHeld ?hr386
                            case hy386 => (intro W hSw; (try dsimp only at hSw); go_simp; try with_reducible rfl)
                            try simp only [Act.put, List.setIfInBounds_toArray, List.set_cons_zero, List.set_cons_succ]
                            refine wpAnyH_take (i := 27) (oi := ⟨_, _, _, _, _, _⟩) (v := ?hv387) rfl (by kernel_rfl) (by kernel_rfl) (by kernel_rfl) (fun _ _ _ h => h) (Or.inl ⟨by rfl, ?hy387⟩) hHeld ?hr387
                            case hy387 => (intro W hSw; (try dsimp only at hSw); go_simp; try with_reducible rfl)
                            try simp only [Act.put, List.setIfInBounds_toArray, List.set_cons_zero, List.set_cons_succ]
                            refine wpAnyH_take (i := 28) (oi := ⟨_, _, _, _, _, _⟩) (v := ?hv388) rfl (by kernel_rfl) (by kernel_rfl) (by kernel_rfl) (fun _ _ _ h => h) (Or.inl ⟨by rfl, ?hy388⟩) hHeld ?hr388
                            case hy388 => (intro W hSw; (try dsimp only at hSw); go_simp; try with_reducible rfl)
                            try simp only [Act.put, List.setIfInBounds_toArray, List.set_cons_zero, List.set_cons_succ]
                            refine wpAnyH_take (i := 29) (oi := ⟨_, _, _, _, _, _⟩) (v := ?hv389) rfl (by kernel_rfl) (by kernel_rfl) (by kernel_rfl) (fun _ _ _ h => h) (Or.inl ⟨by rfl, ?hy389⟩) hHeld ?hr389
                            case hy389 => (intro W hSw; (try dsimp only at hSw); go_simp; try with_reducible rfl)
                            try simp only [Act.put, List.setIfInBounds_toArray, List.set_cons_zero, List.set_cons_succ]
                            refine wpAnyH_take (i := 30) (oi := ⟨_, _, _, _, _, _⟩) (v := ?hv390) rfl (by kernel_rfl) (by kernel_rfl) (by kernel_rfl) (fun _ _ _ h => h) (Or.inl ⟨by rfl, ?hy390⟩) hHeld ?hr390
                            case hy390 => (intro W hSw; (try dsimp only at hSw); go_simp; try with_reducible rfl)
                            try simp only [Act.put, List.setIfInBounds_toArray, List.set_cons_zero, List.set_cons_succ]
                            refine wpAnyH_ready (rs := [25]) (by kernel_rfl) (by simp) ?_
                            refine AllReadyH.cons (o := ⟨_, _, _, _, _, _⟩) rfl (fun K hK => ?hs391) ?hm391
                            case hs391 =>
                              go_simp
                              skip
                              refine hK.out _ _ ?hS391 (fun hHeld => ?hR391)
                              case hS391 => exact KEEP.out _ (y3.alloc y3.size _)
                              clear hK K
                              try simp only [Act.put, List.setIfInBounds_toArray, List.set_cons_zero, List.set_cons_succ]
                              refine wpAnyH_ready (rs := [26]) (by kernel_rfl) (by simp) ?_
                              refine AllReadyH.cons (o := ⟨_, _, _, _, _, _⟩) rfl (fun K hK => ?hs392) ?hm392
                              case hs392 =>
                                go_simp
                                (with_reducible refine (HdO.out _ _ (World.heap_alloc_new _ _) (y3.alloc y3.size _)).mono ?_)
                                rintro e u4 ⟨rfl, h4⟩
                                have y4 := hop1 y3 y3.size h4
                                go_wp2_with fail
                                refine hK.out _ _ ?hS392 (fun hHeld => ?hR392)
                                case hS392 => exact KEEP.out _ y4
                                clear hK K
                                try simp only [Act.put, List.setIfInBounds_toArray, List.set_cons_zero, List.set_cons_succ]
                                refine wpAnyH_take (i := 31) (oi := ⟨_, _, _, _, _, _⟩) (v := ?hv393) rfl (by kernel_rfl) (by kernel_rfl) (by kernel_rfl) (fun _ _ _ h => h) (Or.inl ⟨by rfl, ?hy393⟩) hHeld ?hr393
                                case hy393 => (intro W hSw; (try dsimp only at hSw); go_simp; try with_reducible rfl)
                                try simp only [Act.put, List.setIfInBounds_toArray, List.set_cons_zero, List.set_cons_succ]
                                refine wpAnyH_take (i := 32) (oi := ⟨_, _, _, _, _, _⟩) (v := ?hv394) rfl (by kernel_rfl) (by kernel_rfl) (by kernel_rfl) (fun _ _ _ h => h) (Or.inl ⟨by rfl, ?hy394⟩) hHeld ?hr394
                                case hy394 => (intro W hSw; (try dsimp only at hSw); go_simp; try with_reducible rfl)
                                try simp only [Act.put, List.setIfInBounds_toArray, List.set_cons_zero, List.set_cons_succ]
                                refine wpAnyH_done (by kernel_rfl) ?_ _
                                go_wp2_with fail
                                go_meet
                                exact ⟨rfl, y4⟩
                              case hm392 => exact AllReadyH.nil
                            case hm391 => exact AllReadyH.nil
                          case hm375 => exact AllReadyH.nil
                        case hm374 => exact AllReadyH.nil
                      case hm369 => exact AllReadyH.nil
                    case hm368 => exact AllReadyH.nil
                  case hm367 => exact AllReadyH.nil
                case hm366 => exact AllReadyH.nil
        case rest =>
          obtain ⟨rfl, y⟩ := hcut
          rcases Int.lt_trichotomy (q : Int) (x.text.length : Int) with hd | hd | hd
          · have dL : ∀ (W : World) (g : Nat), W.heap[g]? = some (.cells #[.string ⟨#[76, 65, 82, 71, 69, 82]⟩, .string ⟨D.toArray⟩] 9 (0, 0)) → Below w1.heap.size w1 W → Calls Tryz.prog 8 #[.slice (some ⟨g, 0, none⟩) 2 2, .pointer (some ⟨w.heap.size, 0, none⟩), .pointer (some ⟨w.heap.size + 1, 0, none⟩), .pointer (some ⟨w.heap.size + 2, 0, none⟩), .pointer (some ⟨w.heap.size + 3, 0, none⟩)] W fun e w' => e = .returned (.bool true) ∧ Below W.heap.size W w' := fun W g hg hW => by
              have hr := hearN_any x fv HLF.out HX.out (.slice (some ⟨g, 0, none⟩) 2 2) [[76, 65, 82, 71, 69, 82], D] w.heap.size (w.heap.size + 1) (w.heap.size + 2) (w.heap.size + 3) W (HW.out W hW) (srow_block (ts := [[76, 65, 82, 71, 69, 82], D]) hg rfl 2 rfl) (by simp) (fun t ht => by
                simp only [List.mem_cons, List.not_mem_nil, or_false] at ht
                rcases ht with rfl | rfl <;> first | exact HSL.out | exact HDL.out | (simp; done))
              rw [show [[76, 65, 82, 71, 69, 82], D].map atomW = [atomW [76, 65, 82, 71, 69, 82], atomW D] from rfl, HG4.out.trans (decide_eq_true (by omega))] at hr
              exact hr
            have HdL := Lib.hid dL
            clear dL
            have dM : ∀ (W : World) (g : Nat), W.heap[g]? = some (.cells #[.string ⟨#[83, 77, 65, 76, 76, 69, 82]⟩, .string ⟨D.toArray⟩] 9 (0, 0)) → Below w1.heap.size w1 W → Calls Tryz.prog 8 #[.slice (some ⟨g, 0, none⟩) 2 2, .pointer (some ⟨w.heap.size, 0, none⟩), .pointer (some ⟨w.heap.size + 1, 0, none⟩), .pointer (some ⟨w.heap.size + 2, 0, none⟩), .pointer (some ⟨w.heap.size + 3, 0, none⟩)] W fun e w' => e = .returned (.bool false) ∧ Below W.heap.size W w' := fun W g hg hW => by
              have hr := hearN_any x fv HLF.out HX.out (.slice (some ⟨g, 0, none⟩) 2 2) [[83, 77, 65, 76, 76, 69, 82], D] w.heap.size (w.heap.size + 1) (w.heap.size + 2) (w.heap.size + 3) W (HW.out W hW) (srow_block (ts := [[83, 77, 65, 76, 76, 69, 82], D]) hg rfl 2 rfl) (by simp) (fun t ht => by
                simp only [List.mem_cons, List.not_mem_nil, or_false] at ht
                rcases ht with rfl | rfl <;> first | exact HSL.out | exact HDL.out | (simp; done))
              rw [show [[83, 77, 65, 76, 76, 69, 82], D].map atomW = [atomW [83, 77, 65, 76, 76, 69, 82], atomW D] from rfl, HG5.out.trans (decide_eq_false (by omega))] at hr
              exact hr
            have HdM := Lib.hid dM
            clear dM
            have e1 : decide ((x.text.length : Int) = (q : Int)) = false := decide_eq_false (by omega)
            have e2 : ((x.text.length : Int) == (q : Int)) = false := by rw [beq_eq_false_iff_ne]; omega
            as_aux_lemma =>
              go_wp2_with (first
              | (go_at_call 8; (with_reducible refine (HdL.out _ _ (World.heap_alloc_new _ _) (y.alloc y.size _)).mono ?_); rintro e u ⟨rfl, h⟩; have y := hop1 y y.size h; obtain ⟨-, -, -, -, -, t3⟩ := KEEP.out _ y)
              | (go_at_call 8; (with_reducible refine (HdM.out _ _ (World.heap_alloc_new _ _) (y.alloc y.size _)).mono ?_); rintro e u ⟨rfl, h⟩; have y := hop1 y y.size h; obtain ⟨-, -, -, -, -, t3⟩ := KEEP.out _ y))
              go_ret
              exact ⟨rfl, y1.trans (y.mono y1.size)⟩
          · have dL : ∀ (W : World) (g : Nat), W.heap[g]? = some (.cells #[.string ⟨#[76, 65, 82, 71, 69, 82]⟩, .string ⟨D.toArray⟩] 9 (0, 0)) → Below w1.heap.size w1 W → Calls Tryz.prog 8 #[.slice (some ⟨g, 0, none⟩) 2 2, .pointer (some ⟨w.heap.size, 0, none⟩), .pointer (some ⟨w.heap.size + 1, 0, none⟩), .pointer (some ⟨w.heap.size + 2, 0, none⟩), .pointer (some ⟨w.heap.size + 3, 0, none⟩)] W fun e w' => e = .returned (.bool false) ∧ Below W.heap.size W w' := fun W g hg hW => by
              have hr := hearN_any x fv HLF.out HX.out (.slice (some ⟨g, 0, none⟩) 2 2) [[76, 65, 82, 71, 69, 82], D] w.heap.size (w.heap.size + 1) (w.heap.size + 2) (w.heap.size + 3) W (HW.out W hW) (srow_block (ts := [[76, 65, 82, 71, 69, 82], D]) hg rfl 2 rfl) (by simp) (fun t ht => by
                simp only [List.mem_cons, List.not_mem_nil, or_false] at ht
                rcases ht with rfl | rfl <;> first | exact HSL.out | exact HDL.out | (simp; done))
              rw [show [[76, 65, 82, 71, 69, 82], D].map atomW = [atomW [76, 65, 82, 71, 69, 82], atomW D] from rfl, HG4.out.trans (decide_eq_false (by omega))] at hr
              exact hr
            have HdL := Lib.hid dL
            clear dL
            have dM : ∀ (W : World) (g : Nat), W.heap[g]? = some (.cells #[.string ⟨#[83, 77, 65, 76, 76, 69, 82]⟩, .string ⟨D.toArray⟩] 9 (0, 0)) → Below w1.heap.size w1 W → Calls Tryz.prog 8 #[.slice (some ⟨g, 0, none⟩) 2 2, .pointer (some ⟨w.heap.size, 0, none⟩), .pointer (some ⟨w.heap.size + 1, 0, none⟩), .pointer (some ⟨w.heap.size + 2, 0, none⟩), .pointer (some ⟨w.heap.size + 3, 0, none⟩)] W fun e w' => e = .returned (.bool false) ∧ Below W.heap.size W w' := fun W g hg hW => by
              have hr := hearN_any x fv HLF.out HX.out (.slice (some ⟨g, 0, none⟩) 2 2) [[83, 77, 65, 76, 76, 69, 82], D] w.heap.size (w.heap.size + 1) (w.heap.size + 2) (w.heap.size + 3) W (HW.out W hW) (srow_block (ts := [[83, 77, 65, 76, 76, 69, 82], D]) hg rfl 2 rfl) (by simp) (fun t ht => by
                simp only [List.mem_cons, List.not_mem_nil, or_false] at ht
                rcases ht with rfl | rfl <;> first | exact HSL.out | exact HDL.out | (simp; done))
              rw [show [[83, 77, 65, 76, 76, 69, 82], D].map atomW = [atomW [83, 77, 65, 76, 76, 69, 82], atomW D] from rfl, HG5.out.trans (decide_eq_false (by omega))] at hr
              exact hr
            have HdM := Lib.hid dM
            clear dM
            have e1 : decide ((x.text.length : Int) = (q : Int)) = true := decide_eq_true (by omega)
            have e2 : ((x.text.length : Int) == (q : Int)) = true := by rw [beq_iff_eq]; omega
            as_aux_lemma =>
              go_wp2_with (first
              | (go_at_call 8; (with_reducible refine (HdL.out _ _ (World.heap_alloc_new _ _) (y.alloc y.size _)).mono ?_); rintro e u ⟨rfl, h⟩; have y := hop1 y y.size h; obtain ⟨-, -, -, -, -, t3⟩ := KEEP.out _ y)
              | (go_at_call 8; (with_reducible refine (HdM.out _ _ (World.heap_alloc_new _ _) (y.alloc y.size _)).mono ?_); rintro e u ⟨rfl, h⟩; have y := hop1 y y.size h; obtain ⟨-, -, -, -, -, t3⟩ := KEEP.out _ y))
              go_ret
              exact ⟨rfl, y1.trans (y.mono y1.size)⟩
          · have dL : ∀ (W : World) (g : Nat), W.heap[g]? = some (.cells #[.string ⟨#[76, 65, 82, 71, 69, 82]⟩, .string ⟨D.toArray⟩] 9 (0, 0)) → Below w1.heap.size w1 W → Calls Tryz.prog 8 #[.slice (some ⟨g, 0, none⟩) 2 2, .pointer (some ⟨w.heap.size, 0, none⟩), .pointer (some ⟨w.heap.size + 1, 0, none⟩), .pointer (some ⟨w.heap.size + 2, 0, none⟩), .pointer (some ⟨w.heap.size + 3, 0, none⟩)] W fun e w' => e = .returned (.bool false) ∧ Below W.heap.size W w' := fun W g hg hW => by
              have hr := hearN_any x fv HLF.out HX.out (.slice (some ⟨g, 0, none⟩) 2 2) [[76, 65, 82, 71, 69, 82], D] w.heap.size (w.heap.size + 1) (w.heap.size + 2) (w.heap.size + 3) W (HW.out W hW) (srow_block (ts := [[76, 65, 82, 71, 69, 82], D]) hg rfl 2 rfl) (by simp) (fun t ht => by
                simp only [List.mem_cons, List.not_mem_nil, or_false] at ht
                rcases ht with rfl | rfl <;> first | exact HSL.out | exact HDL.out | (simp; done))
              rw [show [[76, 65, 82, 71, 69, 82], D].map atomW = [atomW [76, 65, 82, 71, 69, 82], atomW D] from rfl, HG4.out.trans (decide_eq_false (by omega))] at hr
              exact hr
            have HdL := Lib.hid dL
            clear dL
            have dM : ∀ (W : World) (g : Nat), W.heap[g]? = some (.cells #[.string ⟨#[83, 77, 65, 76, 76, 69, 82]⟩, .string ⟨D.toArray⟩] 9 (0, 0)) → Below w1.heap.size w1 W → Calls Tryz.prog 8 #[.slice (some ⟨g, 0, none⟩) 2 2, .pointer (some ⟨w.heap.size, 0, none⟩), .pointer (some ⟨w.heap.size + 1, 0, none⟩), .pointer (some ⟨w.heap.size + 2, 0, none⟩), .pointer (some ⟨w.heap.size + 3, 0, none⟩)] W fun e w' => e = .returned (.bool true) ∧ Below W.heap.size W w' := fun W g hg hW => by
              have hr := hearN_any x fv HLF.out HX.out (.slice (some ⟨g, 0, none⟩) 2 2) [[83, 77, 65, 76, 76, 69, 82], D] w.heap.size (w.heap.size + 1) (w.heap.size + 2) (w.heap.size + 3) W (HW.out W hW) (srow_block (ts := [[83, 77, 65, 76, 76, 69, 82], D]) hg rfl 2 rfl) (by simp) (fun t ht => by
                simp only [List.mem_cons, List.not_mem_nil, or_false] at ht
                rcases ht with rfl | rfl <;> first | exact HSL.out | exact HDL.out | (simp; done))
              rw [show [[83, 77, 65, 76, 76, 69, 82], D].map atomW = [atomW [83, 77, 65, 76, 76, 69, 82], atomW D] from rfl, HG5.out.trans (decide_eq_true (by omega))] at hr
              exact hr
            have HdM := Lib.hid dM
            clear dM
            have e1 : decide ((x.text.length : Int) = (q : Int)) = false := decide_eq_false (by omega)
            have e2 : ((x.text.length : Int) == (q : Int)) = false := by rw [beq_eq_false_iff_ne]; omega
            as_aux_lemma =>
              go_wp2_with (first
              | (go_at_call 8; (with_reducible refine (HdL.out _ _ (World.heap_alloc_new _ _) (y.alloc y.size _)).mono ?_); rintro e u ⟨rfl, h⟩; have y := hop1 y y.size h; obtain ⟨-, -, -, -, -, t3⟩ := KEEP.out _ y)
              | (go_at_call 8; (with_reducible refine (HdM.out _ _ (World.heap_alloc_new _ _) (y.alloc y.size _)).mono ?_); rintro e u ⟨rfl, h⟩; have y := hop1 y y.size h; obtain ⟨-, -, -, -, -, t3⟩ := KEEP.out _ y))
              go_ret
              exact ⟨rfl, y1.trans (y.mono y1.size)⟩
end Go.Proofs.YtgblgbhfgiajiaaGreatDoor
