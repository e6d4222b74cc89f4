/- The walk over wire.Parse: it returns the command that the plain parser reads, or its error. Conditions: strconv's table of powers and its two errors, and bytealg.MaxLen, lie as the program's text lays them. -/
import Derived.Test.YtbfndlmihijcgaaGreatDoorParseG
namespace Go.Proofs.YtbfndlmihijcgaaGreatDoor
open Go.RowKit Go.Shelf Go.Sort
set_option linter.unusedSimpArgs false

theorem results_two {P : Program} {fn : Func} {p q : Tmp} {ty u : TypeId} (h : fn.results = #[.cell p ty, .cell q u]) (tmps : Array Value) (w : World) (g k : Nat) (T : TypeId) (cs : Array Value) (fr : Nat × Nat) (d : TypeDesc) (x : Value)
    (hp : tmps.getD p undef = .pointer (some ⟨g, 0, none⟩)) (hg : w.heap[g]? = some (.cells cs T fr))
    (hu : P.underlying ty = some d) (hd : (match d with | .struct _ | .array _ _ => true | _ => false) = true) (hi : (P.info? ty).map (·.size) = some cs.size)
    (hq : tmps.getD q undef = .pointer (some ⟨k, 0, none⟩)) (hx : (loadVar u ⟨k, 0, none⟩).run P w = .ok x w) :
    (results fn tmps).run P w = .ok (.tuple #[.agg cs, x]) w := by
  have hp' : tmps[p]?.getD undef = .pointer (some ⟨g, 0, none⟩) := by simpa using hp
  have hq' : tmps[q]?.getD undef = .pointer (some ⟨k, 0, none⟩) := by simpa using hq
  simp [results, h, hp', hq', asAddr, run_loadVar_row w g T ty cs fr d hg hu hd hi, hx]
theorem load_err (w : World) (E : Nat) (x : Value) (h : w.cell? ⟨E, 0, none⟩ = some x) : (loadVar 27 ⟨E, 0, none⟩).run Tryz.prog w = .ok x w := by
  simp [go_sem, h]
theorem cmd_size : (Tryz.prog.info? 25).map (·.size) = some 3 := by kernel_rfl
/-- at the door, an error having been thrown -/
theorem door_bad {tmps : Array Value} {S : List UInt8} {w w4 : World} {C B E p : Nat} {x0 x1 x2 x3 : Value} (h2 : tmps.getD 2 undef = .pointer (some ⟨C, 0, none⟩)) (h3 : tmps.getD 3 undef = .pointer (some ⟨C + 1, 0, none⟩)) (hpf : parseF S = .error (E, p)) (hC : w4.heap[C]? = some (.cells #[x0, x1, x2] 25 (0, 0))) (hE : w4.heap[C + 1]? = some (.cells #[x3] 27 (0, 0)))
    (hB : w4.heap[B]? = some (.cells #[.int .i64 (E : Int), .int .i64 (p : Int)] 56 (0, 0))) (hlow : Below w.heap.size w w4) (hCw : w.heap.size ≤ C) :
    bodyPostD Tryz.prog Tryz.f5 (CmdR S w) (Exit.panic [{ v := .iface 39 (.agg #[.iface 54 (.pointer (some ⟨B, 0, none⟩))]), recovered := false }]) { tmps := tmps, defers := [{ target := .fn (.func 10) #[.pointer (some ⟨C, 0, none⟩), .pointer (some ⟨C + 1, 0, none⟩)], args := #[] }] } w4 := by
  show Leaves _ _ _ _ _ _ _
  refine leaves_cons (f := 10) (args := #[.pointer (some ⟨C, 0, none⟩), .pointer (some ⟨C + 1, 0, none⟩)]) (by simp) (by simp [go_sem]) ?_
  refine (catch_bad C (C + 1) B undef x0 x1 x2 x3 [] w4 hC hE).mono ?_
  rintro e u' w5 ⟨rfl, rfl, hk, hC5, hE5⟩
  show Leaves _ _ _ _ [] .returning _
  have hBC : B ≠ C := by rintro rfl; rw [hC] at hB; cases hB
  have hBE : B ≠ C + 1 := by rintro rfl; rw [hE] at hB; cases hB
  refine ⟨_, results_two rfl tmps w5 C (C + 1) _ _ _ _ _ h2 hC5 Tryz.underlying25 rfl cmd_size h3 (load_err w5 (C + 1) _ (by rw [Lib.cell_of_heap hE5]; rfl)), ?_⟩
  unfold CmdR
  rw [hpf]
  exact ⟨B, rfl, hk.obj hB (by rintro (h | h); exact hBC h; exact hBE h), hlow.trans (hk.below hlow.size (fun k h => by rcases h with rfl | rfl <;> omega))⟩
/-- at the door, a command having been read -/
theorem door_good {tmps : Array Value} {S : List UInt8} {w w4 : World} {C P k m : Nat} {tag nm : List UInt8} {items : List (ArgP × Value)} {v : Value} (h2 : tmps.getD 2 undef = .pointer (some ⟨C, 0, none⟩)) (h3 : tmps.getD 3 undef = .pointer (some ⟨C + 1, 0, none⟩)) (hpf : parseF S = .ok (tag, nm, items.map (·.1))) (h : LstP C P S w k m tag nm items w4 v) (hP : w.heap.size ≤ P) :
    bodyPostD Tryz.prog Tryz.f5 (CmdR S w) Exit.ret { tmps := tmps, defers := [{ target := .fn (.func 10) #[.pointer (some ⟨C, 0, none⟩), .pointer (some ⟨C + 1, 0, none⟩)], args := #[] }] } w4 := by
  show Leaves _ _ _ _ _ _ _
  refine leaves_cons (f := 10) (args := #[.pointer (some ⟨C, 0, none⟩), .pointer (some ⟨C + 1, 0, none⟩)]) (by simp) (by simp [go_sem]) ?_
  refine (catch_idle ⟨C, 0, none⟩ ⟨C + 1, 0, none⟩ w4).mono ?_
  rintro e u' w5 ⟨rfl, rfl, rfl⟩
  show Leaves _ _ _ _ [] .returning _
  refine ⟨_, results_two rfl tmps w5 C (C + 1) _ _ _ _ _ h2 h.blk Tryz.underlying25 rfl cmd_size h3 (load_err w5 (C + 1) _ (by rw [Lib.cell_of_heap h.err]; rfl)), ?_⟩
  unfold CmdR
  rw [hpf]
  refine ⟨v, rfl, ?_, h.low⟩
  have hrd := readsA_of_owns (ok := fun j => P < j) h.own (fun g e => (h.own.lt g e).1) (fun x hx => readsA_keep (h.kids x hx) (Nat.le_refl _) (fun _ _ _ => rfl) (fun j hj _ => hj.1))
  exact readsA_keep hrd (Nat.le_refl _) (fun _ _ _ => rfl) (fun j hj _ => by show w.heap.size ≤ j; omega)
theorem LstP.bad {C P : Nat} {S : List UInt8} {w : World} {k m : Nat} {tag nm : List UInt8} {items : List (ArgP × Value)} {wd w4 : World} {v : Value} (h : LstP C P S w k m tag nm items wd v) (hP : w.heap.size ≤ P) (hk : Kept (fun k => k = P) wd w4) : w4.heap[C]? = some (.cells #[.string ⟨tag.toArray⟩, .string ⟨nm.toArray⟩, v] 25 (0, 0)) ∧ w4.heap[C + 1]? = some (.cells #[.nilIface] 27 (0, 0)) ∧ Below w.heap.size w w4 :=
  ⟨hk.obj h.blk (pars_ne h.pars h.blk (by decide)), hk.obj h.err (pars_ne h.pars h.err (by decide)), h.low.trans (hk.below h.low.size (fun k e => by have : k = P := e; omega))⟩
theorem set3_0 {w : World} {U : Nat} {a b c u : Value} {t : TypeId} (h : w.heap[U]? = some (.cells #[a, b, c] t (0, 0))) : (w.setCell ⟨U, 0, none⟩ u).heap[U]? = some (.cells #[u, b, c] t (0, 0)) := by
  simp only [World.setCell, Array.getElem?_modify, if_pos, h]
  simp
theorem LstP.setC {C P : Nat} {S : List UInt8} {w : World} {k m i : Nat} {tag nm tag' nm' : List UInt8} {items : List (ArgP × Value)} {wr : World} {v u : Value} (h : LstP C P S w k m tag nm items wr v) (hC : w.heap.size ≤ C) (hCP : C < P) (hb : (wr.setCell ⟨C, i, none⟩ u).heap[C]? = some (.cells #[.string ⟨tag'.toArray⟩, .string ⟨nm'.toArray⟩, v] 25 (0, 0))) : LstP C P S w k m tag' nm' items (wr.setCell ⟨C, i, none⟩ u) v := by
  refine ⟨setCell_same h.pars (show P ≠ C by omega), hb, setCell_same h.err (show C + 1 ≠ C by omega), ownsRow_setCell_below (a := ⟨C, i, none⟩) h.own (show C < P + 1 by omega) _, h.low.setCell (p := ⟨C, i, none⟩) hC _, fun x hx => ?_⟩
  exact readsA_keep (h.kids x hx) (by rw [set_size]; exact Nat.le_refl _) (fun j hj _ => Below.heap_setCell _ _ _ _ (show j ≠ C by have := hj.1; omega)) (fun j hj _ => hj)
theorem LstP.fin {C P : Nat} {S : List UInt8} {w : World} {k m : Nat} {tag nm : List UInt8} {items : List (ArgP × Value)} {wr : World} {v : Value} (h : LstP C P S w k m tag nm items wr v) (hC : w.heap.size ≤ C) (hCP : C + 1 < P) : LstP C P S w k m tag nm items ((((wr.setCell ⟨C, 0, none⟩ (.string ⟨tag.toArray⟩)).setCell ⟨C, 1, none⟩ (.string ⟨nm.toArray⟩)).setCell ⟨C, 2, none⟩ v).setCell ⟨C + 1, 0, none⟩ .nilIface) v := by
  have h1 := h.setC (i := 0) (u := .string ⟨tag.toArray⟩) hC (by omega) (set3_0 h.blk)
  have h2 := h1.setC (i := 1) (u := .string ⟨nm.toArray⟩) hC (by omega) (set3_1 h1.blk)
  have h3 := h2.setC (i := 2) (u := v) hC (by omega) (set3_2 h2.blk)
  refine ⟨setCell_same h3.pars (show P ≠ C + 1 by omega), setCell_same h3.blk (show C ≠ C + 1 by omega), setCell_one h3.err, ownsRow_setCell_below (a := ⟨C + 1, 0, none⟩) h3.own (show C + 1 < P + 1 by omega) _, h3.low.setCell (p := ⟨C + 1, 0, none⟩) (show w.heap.size ≤ C + 1 by omega) _, fun x hx => ?_⟩
  exact readsA_keep (h3.kids x hx) (by simp only [set_size]; exact Nat.le_refl _) (fun j hj _ => Below.heap_setCell _ _ _ _ (show j ≠ C + 1 by have := hj.1; omega)) (fun j hj _ => hj)
theorem leaves_congr {P : Program} {fn : Func} {t t' : Array Value} {R : Ending → World → Prop} (h : results fn t = results fn t') : ∀ (ds : List Deferred) (u : FrameMode) (w : World), Leaves P fn t R ds u w → Leaves P fn t' R ds u w
  | [], .returning, w, hl => by
    show ∃ v, (results fn t').run P w = .ok v w ∧ R (.returned v) w
    rw [← h]; exact hl
  | [], .panicking chain, w, hl => hl
  | [], .run, _, hl => hl
  | d :: ds, u, w, hl => by
    obtain ⟨hu, fv, cap, f, args, h1, h2, h3⟩ := hl
    refine ⟨hu, fv, cap, f, args, h1, h2, h3.mono fun e u' w' hr => ?_⟩
    cases e with
    | returned v => exact leaves_congr h ds _ _ hr
    | panicked chain => exact leaves_congr h ds _ _ hr
    | outgrown => exact hr
/-- where a panic is on its way, a slot that holds no result is nothing -/
theorem door_put {R : Ending → World → Prop} {c : List PanicEntry} {a : Act} {w : World} {i : Nat} {v : Value} (h2 : 2 ≠ i) (h3 : 3 ≠ i) (h : bodyPostD Tryz.prog Tryz.f5 R (.panic c) (a.put (some i) v) w) : bodyPostD Tryz.prog Tryz.f5 R (.panic c) a w := by
  refine leaves_congr ?_ _ _ _ h
  have e2 : (a.tmps.setIfInBounds i v)[2]? = a.tmps[2]? := by rw [Array.getElem?_setIfInBounds, if_neg (Ne.symm h2)]
  have e3 : (a.tmps.setIfInBounds i v)[3]? = a.tmps[3]? := by rw [Array.getElem?_setIfInBounds, if_neg (Ne.symm h3)]
  simp [results, Tryz.results5, Act.put, e2, e3]
theorem up_ascii (l : List UInt8) : Lib.toUpperA l = upL l := by
  unfold upL Lib.toUpperA
  refine List.map_congr_left fun c _ => ?_
  have : ∀ n : Fin 256, Lib.upperB (UInt8.ofNat n.val) = if 97 ≤ (UInt8.ofNat n.val).toNat ∧ (UInt8.ofNat n.val).toNat ≤ 122 then UInt8.ofNat n.val - 32 else UInt8.ofNat n.val := by decide +kernel
  have e := this ⟨c.toNat, c.toNat_lt⟩
  simp only [UInt8.ofNat_toNat] at e
  exact e
end Go.Proofs.YtbfndlmihijcgaaGreatDoor
