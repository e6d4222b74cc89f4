/- The statement ViewFollowsCardSaid: letterboxkeep.ViewFollows returns true of any row of posts, any row of rows of posts and any row of truths. Conditions: none beyond the card's own: what the card ties, which the proof does not lean on, and flags.system as it is laid, which it reads. -/
import Derived.Test.YteabnpahhkicaaaDoorRows
import Derived.Test.YteabnpahhkicaaaDoorCards
import Derived.Test.YteabnpahhkicaaaDoorTie
import Derived.Test.YteabnpahhkicaaaDoorFolB
import Derived.Deep.Slices
import Derived.Deep.Grids
import Derived.Deep.Fields
import Derived.Lib.LaidIn
import Derived.Lib.LaidTab
import Derived.Lib.LaidU8T
import Derived.Lib.ValidU
import Derived.Deep.DeepHandedRow
import Derived.Deep.DeepWitnessRowRef
import Derived.ProofKit
import Derived.SizedLaws
import Derived.ShutString
import Derived.SliceStrings
import Derived.Carry
import Derived.SevenTiedAt
namespace Go.Proofs.YteabnpahhkicaaaDoor.viewFollows
open Go.Shelf
open Go.ChangeShapes Go.WideShapes Go.ChangeAt Go.RowKit Go.Lib
open Go.ChangeMaps (open_string shut_string)

theorem laidOut : laidOutB Tryd.prog = true := by kernel_rfl
theorem cellsS : Tryd.prog.cellsOf 9 = 1 := by kernel_rfl
theorem own : ownKnob Tryd.prog.godebug = none := by kernel_rfl
/-- an array of texts that reads as a list of texts -/
theorem cells_of_strs {H : Type} {enc : TypeId × Value → H} {P : Program} {w : World} {base : Nat} {sp : Nat → Bool} {held : Bool} {fuel : Nat} {t e : TypeId} {n : Nat} {cs : List Value} {zs : List (List UInt8)} {p : List MemPlace}
    (ht : P.underlying t = some (.array n e)) (he : P.underlying e = some .string) (hce : P.cellsOf e = 1) (hct : P.cellsOf t = n)
    (h : DataW.trod enc P w base sp held fuel t cs = some (.agg (zs.map fun z => .lit (.string z)), p)) : cs = zs.map fun z => Value.string ⟨z.toArray⟩ := by
  cases fuel with
  | zero => simp [DataW.trod] at h
  | succ fuel =>
    simp only [DataW.trod, ht, hce, hct, Nat.mul_one] at h
    split at h
    · rename_i hl
      obtain ⟨xs, hm, hx⟩ := Option.map_eq_some_iff.1 h
      have hxs : xs.map (·.1) = zs.map fun z => (DataW.lit (.string z) : DataW H) := by
        have := congrArg Prod.fst hx
        simpa using this
      have hxl : xs.length = n := by simpa using mapM_length hm
      have hzl : zs.length = n := by
        have := congrArg List.length hxs
        simp at this
        omega
      apply List.ext_getElem?
      intro i
      by_cases hi : i < n
      · obtain ⟨b, hb, hf⟩ := mapM_at hm i i (by simp [hi])
        obtain ⟨z, hc, rfl, _⟩ := DataW.trod_string he hf
        have h1 : cs[i]? = some (.string z) := by
          have := congrArg (·[0]?) hc
          simpa [List.getElem?_take, List.getElem?_drop] using this
        have h2 : (xs.map (·.1))[i]? = some (DataW.lit (.string z.data.toList) : DataW H) := by simp [hb]
        rw [hxs] at h2
        simp only [List.getElem?_map, Option.map_eq_some_iff, DataW.lit.injEq, Lit.string.injEq] at h2
        obtain ⟨z', hz', rfl⟩ := h2
        simp [h1, hz']
      · rw [List.getElem?_eq_none (by omega), List.getElem?_eq_none (by simp; omega)]
    · cases h
theorem sys_data : (Rows.laid_letterbox_flags_system : DataW Unit) = .agg (sysL.map fun z => .lit (.string z)) := by kernel_rfl
theorem sys_named : Tryd.prog.globalNamed "letterbox/flags.system" = some 0 := by kernel_rfl
theorem sys_type : (Tryd.prog.globals[0]?).map (·.type) = some 86 := by kernel_rfl
theorem sys_cells : Tryd.prog.cellsOf 86 = 5 := by kernel_rfl
/-- what the row's condition gives a walk: flags.system's block -/
theorem sys_of_laid {W : World} (h : laidMet Tryd.prog Rows.viewFollowsRow.laid W) : FlagG W := by
  obtain ⟨ps, hv, _, hrow⟩ := h
  obtain ⟨_, _, _, _, _, q0, _, _, _, _, hv, rfl⟩ := hv
  obtain ⟨g', t', cs, fuel, p, q, hg', ht', hvar, hd, _, rfl⟩ := hv
  obtain rfl := Option.some.inj (sys_named.symm.trans hg')
  obtain rfl := Option.some.inj (sys_type.symm.trans ht')
  rw [sys_data] at hd
  have hcs := cells_of_strs Tryd.underlying86 Tryd.underlying9 cellsS sys_cells hd
  have hsz : cs.size = 5 := by
    have := congrArg List.length hcs
    simpa [sysL] using this
  obtain ⟨⟨c, t, hb⟩, _⟩ := hrow 0 0 (List.mem_append_right _ (List.mem_append_left _ (List.mem_append_left _ (MemPlace.mem_row.2 ⟨0, by omega, rfl⟩))))
  refine ⟨t, ?_⟩
  have e : c = cs := by
    unfold World.var? at hvar
    rw [sys_named, Option.bind_some, hb] at hvar
    exact Option.some.inj hvar
  subst e
  rw [hb, ← hcs]

/-- the witness's world: the two tables and flags.system lie as their initialisers lay them -/
noncomputable def laidWorld (os : Os) : World :=
  let w0 := World.holding Tryd.prog os ⟨#[], #[], []⟩
  let put (h : Array Obj) (g : Nat) (cs : Array Value) : Array Obj := h.modify g fun
    | .cells _ t frozen => .cells cs t frozen
    | o => o
  let h1 := put w0.heap 2 (Lib.firstTab.map fun z => Value.int .u8 z).toArray
  let h2 := put h1 3 ((List.range 16).flatMap fun i => [Value.int .u8 (Lib.accLo i), Value.int .u8 (Lib.accHi i)]).toArray
  let h3 := put h2 0 ((sysL.map fun t => Value.string ⟨t.toArray⟩).toArray)
  { w0 with heap := h3 }
theorem laid_met (os : Os) (args : Array Value) : laidMet Tryd.prog Rows.viewFollowsRow.laid ((laidWorld os).forCall (fun _ _ => 0) ⟨#[], args, []⟩).memory :=
  (LaidIn.of_run (l := Rows.viewFollowsRow.laid) [3, 0, 2] 8 (by kernel_rfl) (by kernel_rfl) (by kernel_rfl) (by kernel_rfl)).met

theorem witness_row (os : Os) {H : Type} (enc : TypeId × Value → H) :
    (OpenSpec.ofChange Rows.viewFollowsSpec).preRow enc Tryd.prog Tryd.f3 Rows.viewFollowsRow.domain false Rows.viewFollowsRow.laid ((laidWorld os).forCall (fun _ _ => 0) ⟨#[], #[.slice none 0 0, .slice none 0 0, .slice none 0 0], []⟩).memory #[.slice none 0 0, .slice none 0 0, .slice none 0 0] := by
  have hw : (DataW.whole enc Tryd.prog ((laidWorld os).forCall (fun _ _ => 0) ⟨#[], #[.slice none 0 0, .slice none 0 0, .slice none 0 0], []⟩).memory Tryd.f3.params.toList (OpenSpec.ofChange Rows.viewFollowsSpec).vars false #[Value.slice none 0 0, Value.slice none 0 0, Value.slice none 0 0].toList 8).map (fun x => (x.1, x.2.1)) =
      some ([.nil, .nil, .nil], []) := by kernel_rfl
  obtain ⟨⟨x1, x2, x3⟩, hx, hx1⟩ := Option.map_eq_some_iff.1 hw
  simp only [Prod.mk.injEq] at hx1
  obtain ⟨rfl, rfl⟩ := hx1
  exact OpenSpec.preRow_of_cond 8 hx (by kernel_rfl) (fun k hk => by cases hk) (by kernel_rfl) (laid_met os _)

/-- a row of strings that is handed over, as the walks read it -/
theorem row_of {H : Type} {enc : TypeId × Value → H} {W : World} {a0 : Option Addr} {len cap : Nat} {d : DataW H} {p : List MemPlace} {fuel : Nat}
    (hf : DataW.trod enc Tryd.prog W 0 (fun _ => true) true fuel 34 (Value.slice a0 len cap).cells.toList = some (d, p)) (hlt : ∀ x ∈ p, x.block < W.heap.size) :
    ∃ l : List (List UInt8), SRow W (.slice a0 len cap) l ∧ ∀ t ∈ l, t.length ≤ 9223372036854775807 := by
  rcases open_strings Tryd.underlying34 Tryd.underlying9 cellsS hf with ⟨hcs, hx⟩ | ⟨a, len', cap', ss, hcs, _, hl, hm, hz, hx, hcell, hws⟩
  · simp [Value.cells] at hcs
    obtain ⟨rfl, rfl, rfl⟩ := hcs
    exact ⟨[], ⟨none, 0, rfl, Nat.le_refl _, ⟨by decide, fun _ => rfl⟩, fun j n hj => by simp at hj⟩, fun t ht => by cases ht⟩
  · simp [Value.cells] at hcs
    obtain ⟨rfl, rfl, rfl⟩ := hcs
    simp only [Prod.mk.injEq] at hx
    obtain ⟨rfl, rfl⟩ := hx
    simp only [if_true] at hz
    unfold maxLen at hm
    have hlen : ((ss.take len).map (·.data.toList)).length = len := by simp; omega
    refine ⟨(ss.take len).map (·.data.toList), ⟨some a, cap, by rw [hlen], by rw [hlen]; exact hl, ⟨by omega, fun h => by cases h⟩, fun j n hj => ?_⟩, fun t ht => ?_⟩
    · rw [List.getElem?_map] at hj
      obtain ⟨y, hy, rfl⟩ := Option.map_eq_some_iff.1 hj
      have hjl : j < len := by
        have := (List.getElem?_eq_some_iff.1 hy).1
        rw [List.length_take] at this; omega
      rw [List.getElem?_take, if_pos hjl] at hy
      obtain ⟨b, off, spot⟩ := a
      have hc := hcell j (by omega)
      have hspot : spot = none := by simpa [Addr.add] using World.cell?_spot (hcell 0 (by omega))
      subst hspot
      have hbW : b < W.heap.size := hlt (.cell b (off + j)) (MemPlace.mem_row.2 ⟨j, by omega, by simp⟩)
      refine ⟨b, off, rfl, hbW, ?_⟩
      rw [← add_pl, hc]
      have e : ss.getD j ByteArray.empty = y := by rw [List.getD, hy]; rfl
      rw [e]
    · obtain ⟨y, hy, rfl⟩ := List.mem_map.1 ht
      have := hws y (List.mem_of_mem_take hy)
      unfold maxLen at this
      have e := Lib.size_eq y
      omega

/-- a struct of one-cell fields that is handed over: each field's reading -/
theorem struct_ones {H : Type} {enc : TypeId × Value → H} {P : Program} {w : World} {base : Nat} {sp : Nat → Bool} {held : Bool} {t : TypeId} {fs : Array Field} {fuel : Nat} {cs : List Value} {x : DataW H × List MemPlace} (he : P.underlying t = some (.struct fs)) (hone : Go.Deep.oneCellFields P fs = true) (hC : P.cellsOf t = fs.size) (h : DataW.trod enc P w base sp held fuel t cs = some x) :
    ∃ (ys : List (DataW H × List MemPlace)) (n : Nat), x = (.agg (ys.map (·.1)), ys.flatMap (·.2)) ∧ cs.length = fs.size ∧ ys.length = fs.size ∧ ∀ (i : Nat) (f : Field), fs[i]? = some f → ∀ v, cs[i]? = some v → DataW.trod enc P w base sp held n f.type [v] = ys[i]? := by
  obtain ⟨ys, n, _, hx, hl, hy, hg⟩ := DataW.trod_struct he h
  refine ⟨ys, n, hx, hl.trans hC, hy, fun i f hf v hv => ?_⟩
  have h1 := hg i f hf
  obtain ⟨ho, hk⟩ := Go.Deep.hone_of hone i f hf
  obtain ⟨hi, e⟩ := List.getElem?_eq_some_iff.1 hv
  rw [ho, hk, List.drop_eq_getElem_cons hi, e] at h1
  exact h1
theorem cellsP : Tryd.prog.cellsOf 36 = 5 := by kernel_rfl
set_option maxRecDepth 100000 in
set_option maxHeartbeats 2000000 in
/-- a post that is handed over -/
theorem post_of {H : Type} {enc : TypeId × Value → H} {W : World} {n : Nat} {cs : List Value} {x : DataW H × List MemPlace}
    (hf : DataW.trod enc Tryd.prog W 0 (fun _ => true) true n 36 cs = some x) (hlt : ∀ y ∈ x.2, y.block < W.heap.size) :
    ∃ (p : Pst) (fv : Value), cs = [.int .i64 p.what, .int .i64 p.uid, .int .i64 p.n, fv, .string ⟨p.text.toArray⟩] ∧ SRow W fv p.flags ∧ (∀ t ∈ p.flags, t.length ≤ 9223372036854775807) ∧ p.text.length ≤ 9223372036854775807 ∧ -9223372036854775808 ≤ p.uid ∧ p.uid ≤ 9223372036854775807 ∧ -9223372036854775808 ≤ p.n ∧ p.n ≤ 9223372036854775807 := by
  obtain ⟨ys, m, rfl, hlen, hyl, hg⟩ := struct_ones Tryd.underlying36 (by kernel_rfl) (by kernel_rfl) hf
  match cs, (show cs.length = 5 from hlen) with
  | [c0, c1, c2, c3, c4], _ =>
    match ys, (show ys.length = 5 from hyl) with
    | [y0, y1, y2, y3, y4], _ =>
      have g0 : DataW.trod enc Tryd.prog W 0 (fun _ => true) true m 3 [c0] = some y0 := hg 0 _ rfl c0 rfl
      have g1 : DataW.trod enc Tryd.prog W 0 (fun _ => true) true m 3 [c1] = some y1 := hg 1 _ rfl c1 rfl
      have g2 : DataW.trod enc Tryd.prog W 0 (fun _ => true) true m 3 [c2] = some y2 := hg 2 _ rfl c2 rfl
      have g3 : DataW.trod enc Tryd.prog W 0 (fun _ => true) true m 34 [c3] = some y3 := hg 3 _ rfl c3 rfl
      have g4 : DataW.trod enc Tryd.prog W 0 (fun _ => true) true m 9 [c4] = some y4 := hg 4 _ rfl c4 rfl
      obtain ⟨n0, e0, _, w0⟩ := DataW.trod_int Tryd.underlying3 g0
      obtain ⟨n1, e1, _, w1⟩ := DataW.trod_int Tryd.underlying3 g1
      obtain ⟨n2, e2, _, w2⟩ := DataW.trod_int Tryd.underlying3 g2
      obtain ⟨s, e4, _, w4⟩ := DataW.trod_string Tryd.underlying9 g4
      simp only [List.cons.injEq, and_true] at e0 e1 e2 e4
      subst e0 e1 e2 e4
      have b1 : IntKind.i64.min ≤ n1 ∧ n1 ≤ 9223372036854775807 := by simpa [Lit.wf] using w1
      have b2 : IntKind.i64.min ≤ n2 ∧ n2 ≤ 9223372036854775807 := by simpa [Lit.wf] using w2
      obtain ⟨a0, len, cap, hc3⟩ : ∃ a0 len cap, c3 = .slice a0 len cap := by
        rcases open_strings Tryd.underlying34 Tryd.underlying9 cellsS g3 with ⟨hcs, _⟩ | ⟨a, len', cap', ss, hcs, _⟩
        · simp only [List.cons.injEq, and_true] at hcs
          exact ⟨_, _, _, hcs⟩
        · simp only [List.cons.injEq, and_true] at hcs
          exact ⟨_, _, _, hcs⟩
      subst hc3
      obtain ⟨d3, p3⟩ := y3
      obtain ⟨l, hl, ht⟩ := row_of (a0 := a0) (len := len) (cap := cap) g3 (fun y hy => hlt y (by simp [hy]))
      refine ⟨⟨n0, n1, n2, l, s.data.toList⟩, .slice a0 len cap, ?_, hl, ht, ?_, b1.1, b1.2, b2.1, b2.2⟩
      · have : (⟨s.data.toList.toArray⟩ : ByteArray) = s := by apply ByteArray.ext; simp
        show _ = [_, _, _, _, Value.string ⟨s.data.toList.toArray⟩]
        rw [this]
      · have e := Lib.size_eq s
        unfold maxLen at w4
        show s.data.toList.length ≤ _
        omega
set_option maxRecDepth 100000 in
set_option maxHeartbeats 2000000 in
/-- a row of posts that is handed over, as the walks read it -/
theorem posts_of {H : Type} {enc : TypeId × Value → H} {W : World} {a0 : Option Addr} {len cap : Nat} {d : DataW H} {p : List MemPlace} {fuel : Nat}
    (hf : DataW.trod enc Tryd.prog W 0 (fun _ => true) true fuel 22 (Value.slice a0 len cap).cells.toList = some (d, p)) (hlt : ∀ x ∈ p, x.block < W.heap.size) :
    ∃ l : List Pst, PRow W (.slice a0 len cap) l ∧ (∀ x ∈ l, (∀ t ∈ x.flags, t.length ≤ 9223372036854775807) ∧ x.text.length ≤ 9223372036854775807) ∧ ∀ x ∈ l, -9223372036854775808 ≤ x.uid ∧ x.uid ≤ 9223372036854775807 ∧ -9223372036854775808 ≤ x.n ∧ x.n ≤ 9223372036854775807 := by
  rcases Go.Deep.open_slice Tryd.underlying22 hf with ⟨hcs, hx⟩ | ⟨a, len', cap', m, n, D, Pl, hcs, _, hl, hm, hmm, hx, hi⟩
  · simp [Value.cells] at hcs
    obtain ⟨rfl, rfl, rfl⟩ := hcs
    exact ⟨[], ⟨none, 0, rfl, Nat.le_refl _, ⟨by decide, fun _ => rfl⟩, fun j n hj => by simp at hj⟩, fun t ht => (by cases ht), fun t ht => (by cases ht)⟩
  · simp [Value.cells] at hcs
    obtain ⟨rfl, rfl, rfl⟩ := hcs
    simp only [if_true] at hmm
    obtain rfl := hmm.symm
    simp only [Prod.mk.injEq] at hx
    obtain ⟨_, rfl⟩ := hx
    rw [cellsP] at hi hlt
    have hk : ∀ j : Fin len, ∃ x : Pst, ∃ fv, (SRow W fv x.flags ∧ (∀ t ∈ x.flags, t.length ≤ 9223372036854775807) ∧ x.text.length ≤ 9223372036854775807 ∧ -9223372036854775808 ≤ x.uid ∧ x.uid ≤ 9223372036854775807 ∧ -9223372036854775808 ≤ x.n ∧ x.n ≤ 9223372036854775807) ∧ ∀ (i : Nat) (u : Value), ([.int .i64 x.what, .int .i64 x.uid, .int .i64 x.n, fv, .string ⟨x.text.toArray⟩] : List Value)[i]? = some u → W.cell? ((a.add (j.1 * 5)).add i) = some u := fun j => by
      have hjm : j.1 < cap := Nat.lt_of_lt_of_le j.2 hl
      obtain ⟨cs', hc, ht⟩ := hi j.1 hjm
      obtain ⟨_, hcl, hat⟩ := World.cells?_some hc
      obtain ⟨x, fv, rfl, h1, h2, h3, h4, h5, h6, h7⟩ := post_of ht (fun y hy => hlt y (List.mem_append_right _ (List.mem_flatMap.2 ⟨j.1, List.mem_range.2 hjm, hy⟩)))
      refine ⟨x, fv, ⟨h1, h2, h3, h4, h5, h6, h7⟩, fun i u hu => ?_⟩
      have hi5 : i < 5 := by
        have := (List.getElem?_eq_some_iff.1 hu).1
        simpa using this
      rw [hat i hi5]
      exact hu
    obtain ⟨f, hf2⟩ := Classical.axiomOfChoice hk
    have hlen : (List.ofFn f).length = len := by simp
    have hget : ∀ (j : Nat) (x : Pst), (List.ofFn f)[j]? = some x → ∃ h : j < len, x = f ⟨j, h⟩ := fun j x hj => by
      have h : j < len := by rw [← hlen]; exact (List.getElem?_eq_some_iff.1 hj).1
      refine ⟨h, ?_⟩
      simp [h] at hj
      exact hj.symm
    have hmem : ∀ x ∈ List.ofFn f, ∃ j, x = f j := fun x hx => by
      obtain ⟨j, hj⟩ := List.getElem?_of_mem hx
      obtain ⟨h, e⟩ := hget j x hj
      exact ⟨_, e⟩
    refine ⟨List.ofFn f, ⟨some a, cap, by rw [hlen], by rw [hlen]; exact hl, ⟨by unfold maxLen at hm; omega, fun h => by cases h⟩, fun j x hj => ?_⟩, fun x hx => ?_, fun x hx => ?_⟩
    · obtain ⟨hjl, rfl⟩ := hget j x hj
      obtain ⟨fv, ⟨h1, _⟩, hc⟩ := hf2 ⟨j, hjl⟩
      obtain ⟨b, off, spot⟩ := a
      have hspot : spot = none := by
        obtain ⟨fv0, _, hc0⟩ := hf2 ⟨0, by omega⟩
        simpa [Addr.add] using World.cell?_spot (hc0 0 _ rfl)
      subst hspot
      have hbW : b < W.heap.size := hlt (.cell b (off + j * 5)) (List.mem_append_left _ (MemPlace.mem_row.2 ⟨j * 5, by omega, by simp⟩))
      have hc' : ∀ (i : Nat) (u : Value), ([.int .i64 (f ⟨j, hjl⟩).what, .int .i64 (f ⟨j, hjl⟩).uid, .int .i64 (f ⟨j, hjl⟩).n, fv, .string ⟨(f ⟨j, hjl⟩).text.toArray⟩] : List Value)[i]? = some u → W.cell? ⟨b, off + j * 5 + i, none⟩ = some u := fun i u hu => by
        have := hc i u hu
        rwa [add_pl, add_pl] at this
      exact ⟨b, off, fv, rfl, hbW, h1, hc' 0 _ rfl, hc' 1 _ rfl, hc' 2 _ rfl, hc' 3 _ rfl, hc' 4 _ rfl⟩
    · obtain ⟨j, rfl⟩ := hmem x hx
      obtain ⟨fv, ⟨_, h2, h3, _⟩, _⟩ := hf2 j
      exact ⟨h2, h3⟩
    · obtain ⟨j, rfl⟩ := hmem x hx
      obtain ⟨fv, ⟨_, _, _, h4, h5, h6, h7⟩, _⟩ := hf2 j
      exact ⟨h4, h5, h6, h7⟩

theorem cellsPP : Tryd.prog.cellsOf 22 = 1 := by kernel_rfl
theorem cellsB : Tryd.prog.cellsOf 4 = 1 := by kernel_rfl
set_option maxRecDepth 100000 in
set_option maxHeartbeats 2000000 in
/-- a row of rows of posts that is handed over, as the walks read it -/
theorem rows_of {H : Type} {enc : TypeId × Value → H} {W : World} {a0 : Option Addr} {len cap : Nat} {d : DataW H} {p : List MemPlace} {fuel : Nat}
    (hf : DataW.trod enc Tryd.prog W 0 (fun _ => true) true fuel 23 (Value.slice a0 len cap).cells.toList = some (d, p)) (hlt : ∀ x ∈ p, x.block < W.heap.size) :
    ∃ ll : List (List Pst), PPRow W (.slice a0 len cap) ll ∧ ∀ x ∈ ll, PstOk x := by
  rcases Go.Deep.open_slice1 Tryd.underlying23 cellsPP hf with ⟨hcs, hx⟩ | ⟨a, len', cap', m, n, V, D, Pl, hcs, _, hl, hm, hmm, hx, hi⟩
  · simp [Value.cells] at hcs
    obtain ⟨rfl, rfl, rfl⟩ := hcs
    exact ⟨[], ⟨none, 0, rfl, Nat.le_refl _, ⟨by decide, fun _ => rfl⟩, fun j n hj => by simp at hj⟩, fun t ht => (by cases ht)⟩
  · simp [Value.cells] at hcs
    obtain ⟨rfl, rfl, rfl⟩ := hcs
    simp only [if_true] at hmm
    obtain rfl := hmm.symm
    simp only [Prod.mk.injEq] at hx
    obtain ⟨_, rfl⟩ := hx
    have hk : ∀ j : Fin len, ∃ l : List Pst, (∃ pv, PRow W pv l ∧ W.cell? (a.add j.1) = some pv) ∧ PstOk l := fun j => by
      have hjm : j.1 < cap := Nat.lt_of_lt_of_le j.2 hl
      obtain ⟨hc, ht⟩ := hi j.1 hjm
      obtain ⟨a1, n1, c1, hv⟩ : ∃ a1 n1 c1, V j.1 = .slice a1 n1 c1 := by
        rcases Go.Deep.open_slice Tryd.underlying22 ht with ⟨hcs, _⟩ | ⟨_, _, _, _, _, _, _, hcs, _⟩
        · simp only [List.cons.injEq, and_true] at hcs
          exact ⟨_, _, _, hcs⟩
        · simp only [List.cons.injEq, and_true] at hcs
          exact ⟨_, _, _, hcs⟩
      rw [hv] at hc ht
      obtain ⟨l, h1, h2, h3⟩ := posts_of (a0 := a1) (len := n1) (cap := c1) ht (fun y hy => hlt y (List.mem_append_right _ (List.mem_flatMap.2 ⟨j.1, List.mem_range.2 hjm, hy⟩)))
      exact ⟨l, ⟨_, h1, hc⟩, h2, h3⟩
    obtain ⟨f, hf2⟩ := Classical.axiomOfChoice hk
    have hlen : (List.ofFn f).length = len := by simp
    have hget : ∀ (j : Nat) (x : List Pst), (List.ofFn f)[j]? = some x → ∃ h : j < len, x = f ⟨j, h⟩ := fun j x hj => by
      have h : j < len := by rw [← hlen]; exact (List.getElem?_eq_some_iff.1 hj).1
      refine ⟨h, ?_⟩
      simp [h] at hj
      exact hj.symm
    refine ⟨List.ofFn f, ⟨some a, cap, by rw [hlen], by rw [hlen]; exact hl, ⟨by unfold maxLen at hm; omega, fun h => by cases h⟩, fun j x hj => ?_⟩, fun x hx => ?_⟩
    · obtain ⟨hjl, rfl⟩ := hget j x hj
      obtain ⟨⟨pv, h1, hc⟩, _⟩ := hf2 ⟨j, hjl⟩
      obtain ⟨b, off, spot⟩ := a
      have hspot : spot = none := by
        obtain ⟨⟨pv0, _, hc0⟩, _⟩ := hf2 ⟨0, by omega⟩
        simpa [Addr.add] using World.cell?_spot hc0
      subst hspot
      have hbW : b < W.heap.size := hlt (.cell b (off + j)) (List.mem_append_left _ (MemPlace.mem_row.2 ⟨j, by omega, by simp⟩))
      refine ⟨b, off, pv, rfl, hbW, ?_, h1⟩
      rwa [add_pl] at hc
    · obtain ⟨j, hj⟩ := List.getElem?_of_mem hx
      obtain ⟨h, rfl⟩ := hget j x hj
      exact (hf2 ⟨j, h⟩).2
set_option maxRecDepth 100000 in
set_option maxHeartbeats 2000000 in
/-- a row of truths that is handed over, as the walks read it -/
theorem truths_of {H : Type} {enc : TypeId × Value → H} {W : World} {a0 : Option Addr} {len cap : Nat} {d : DataW H} {p : List MemPlace} {fuel : Nat}
    (hf : DataW.trod enc Tryd.prog W 0 (fun _ => true) true fuel 24 (Value.slice a0 len cap).cells.toList = some (d, p)) (hlt : ∀ x ∈ p, x.block < W.heap.size) :
    ∃ l : List Bool, GRow W (.slice a0 len cap) l := by
  rcases Go.Deep.open_slice1 Tryd.underlying24 cellsB hf with ⟨hcs, hx⟩ | ⟨a, len', cap', m, n, V, D, Pl, hcs, _, hl, hm, hmm, hx, hi⟩
  · simp [Value.cells] at hcs
    obtain ⟨rfl, rfl, rfl⟩ := hcs
    exact ⟨[], ⟨none, 0, rfl, Nat.le_refl _, ⟨by decide, fun _ => rfl⟩, fun j n hj => by simp at hj⟩⟩
  · simp [Value.cells] at hcs
    obtain ⟨rfl, rfl, rfl⟩ := hcs
    simp only [if_true] at hmm
    obtain rfl := hmm.symm
    simp only [Prod.mk.injEq] at hx
    obtain ⟨_, rfl⟩ := hx
    have hk : ∀ j : Fin len, ∃ x : Bool, W.cell? (a.add j.1) = some (.bool x) := fun j => by
      have hjm : j.1 < cap := Nat.lt_of_lt_of_le j.2 hl
      obtain ⟨hc, ht⟩ := hi j.1 hjm
      obtain ⟨x, hv, _⟩ := DataW.trod_bool Tryd.underlying4 ht
      simp only [List.cons.injEq, and_true] at hv
      exact ⟨x, by rw [← hv]; exact hc⟩
    obtain ⟨f, hf2⟩ := Classical.axiomOfChoice hk
    have hlen : (List.ofFn f).length = len := by simp
    refine ⟨List.ofFn f, ⟨some a, cap, by rw [hlen], by rw [hlen]; exact hl, ⟨by unfold maxLen at hm; omega, fun h => by cases h⟩, fun j x hj => ?_⟩⟩
    have hjl : j < len := by rw [← hlen]; exact (List.getElem?_eq_some_iff.1 hj).1
    have hx : f ⟨j, hjl⟩ = x := by simpa [hjl] using hj
    obtain ⟨b, off, spot⟩ := a
    have hspot : spot = none := by
      have hc0 := hf2 ⟨0, by omega⟩
      simpa [Addr.add] using World.cell?_spot hc0
    subst hspot
    have hbW : b < W.heap.size := hlt (.cell b (off + j)) (List.mem_append_left _ (MemPlace.mem_row.2 ⟨j, by omega, by simp⟩))
    refine ⟨b, off, rfl, hbW, ?_⟩
    have := hf2 ⟨j, hjl⟩
    rwa [add_pl, hx] at this

set_option maxRecDepth 100000 in
set_option maxHeartbeats 2000000 in
theorem lifted (os : Os) (started : os.Started) (H : Type) (enc : TypeId × Value → H) (F : Stop.Interp) :
    ReturnsInHanded {} Tryd.checked os 3 .any ((OpenSpec.ofChange Rows.viewFollowsSpec).preRow enc Tryd.prog Tryd.f3 Rows.viewFollowsRow.domain false Rows.viewFollowsRow.laid) (((OpenSpec.ofChange Rows.viewFollowsSpec).at F).post enc Tryd.prog Tryd.f3 false true false false) := by
  refine returnsInHanded_of_row (C := Tryd.checked) (s := OpenSpec.ofChange Rows.viewFollowsSpec) own started (by kernel_rfl) Tryd.func3
    (witness_row_atRef (enc := enc) (C := Tryd.checked) false (laidWorld os) #[.slice none 0 0, .slice none 0 0, .slice none 0 0] rfl (by kernel_rfl) (by kernel_rfl) (by kernel_rfl) (witness_row os enc)) ?_
  intro W base args ds gs before hval0 hW _ _ _ hL hsh _
  have hval : ∀ (j : Nat) t v, Tryd.f3.params[j]? = some t → args[j]? = some v → Value.okWide Tryd.prog W .any base t v := hval0
  have hW' := hW
  obtain ⟨p, q, hA0, hV0, rfl, _, _⟩ := hW
  have hA : DataW.TrodAll enc Tryd.prog W 0 (fun _ => true) true Tryd.f3.params.toList args.toList ds p := hA0
  rw [Tryd.params3] at hA hval
  obtain ⟨v0, v1, v2, d0, d1, d2, p0, p1, p2, rfl, rfl, rfl, h0, h1, h2⟩ := trodAll_three hA
  obtain ⟨rfl, rfl⟩ := trodVars_none hV0
  obtain ⟨a0, len0, cap0, rfl⟩ := okWide_slice Tryd.underlying22 (hval 0 22 v0 rfl rfl)
  obtain ⟨a1, len1, cap1, rfl⟩ := okWide_slice Tryd.underlying23 (hval 1 23 v1 rfl rfl)
  obtain ⟨a2, len2, cap2, rfl⟩ := okWide_slice Tryd.underlying24 (hval 2 24 v2 rfl rfl)
  clear hA0 hV0 hval0
  have hlt0 : ∀ x ∈ p0, x.block < W.heap.size := fun x hx => hW'.lt x (by simp [hx])
  have hlt1 : ∀ x ∈ p1, x.block < W.heap.size := fun x hx => hW'.lt x (by simp [hx])
  have hlt2 : ∀ x ∈ p2, x.block < W.heap.size := fun x hx => hW'.lt x (by simp [hx])
  have h0k := h0
  have h1k := h1
  have h2k := h2
  obtain ⟨fuel0, hf0⟩ := h0
  obtain ⟨fuel1, hf1⟩ := h1
  obtain ⟨fuel2, hf2⟩ := h2
  have hG := sys_of_laid hL
  obtain ⟨l, hl, hlt, hli⟩ := posts_of hf0 hlt0
  obtain ⟨ll, hll, hoo⟩ := rows_of hf1 hlt1
  obtain ⟨gn, hgn⟩ := truths_of hf2 hlt2
  refine (follows_any _ _ _ l ll gn W hl hll hgn ⟨hlt, hli⟩ hoo hG).mono ?_
  rintro e W' ⟨rfl, bel⟩
  refine ⟨_, rfl, _, _, _, [], p0 ++ (p1 ++ p2), [], hW', ?_, ?_, ?_, bel.frame _, fun h => by cases h⟩
  · exact trodAll_mk1 (shut_bool Tryd.underlying4 _)
  · exact trodAll_mk3 (Below.trod laidOut (by kernel_rfl) (of_decide_eq_true (by kernel_rfl)) h0k bel hlt0) (Below.trod laidOut (by kernel_rfl) (of_decide_eq_true (by kernel_rfl)) h1k bel hlt1) (Below.trod laidOut (by kernel_rfl) (of_decide_eq_true (by kernel_rfl)) h2k bel hlt2)
  · rfl

theorem said : Rows.ViewFollowsSaid :=
  OpenClaim.holds_of_cond 3 Tryd.f3 rfl rfl rfl rfl rfl rfl rfl ⟨rfl, rfl, rfl, rfl, rfl⟩ rfl rfl rfl rfl rfl (by kernel_rfl) Tryd.func3 (by kernel_rfl)
    (of_decide_eq_true (by kernel_rfl)) (by unfold Func.isWrapper; rw [if_neg (of_decide_eq_false (by kernel_rfl))]; exact ⟨rfl, rfl⟩)
    (fun os started H enc _ F0 => by rw [OpenClaim.pre_eq_preRow]; exact lifted os started H enc F0)

theorem card_holds : Rows.ViewFollowsCardSaid :=
  Claim7.holds_tied_plain_at .later [] _ true _ false
    said (fun _ h => by cases h) (by kernel_rfl) (fun _ h => by cases h) viewFollows_row_tie rfl ⟨rfl, rfl⟩ (by kernel_rfl) rfl
    (fun f fn hf hfn => by
      obtain rfl : f = 3 := Option.some.inj ((show Tryd.prog.funcNamed Rows.viewFollowsRow.func = some 3 by kernel_rfl).symm.trans hf) |>.symm
      obtain rfl : fn = Tryd.f3 := (Option.some.inj (Tryd.func3.symm.trans hfn)).symm
      exact ⟨by kernel_rfl, fun j t ht => by
        rw [Tryd.params3] at ht
        have hm : t ∈ [22, 23, 24] := by simpa using Array.mem_of_getElem? ht
        have hall : ([22, 23, 24].all fun u => !Tryd.prog.wantsStandIn u) = true := by kernel_rfl
        exact (show Tryd.prog.wantsStandIn t = false by simpa using List.all_eq_true.1 hall t hm)⟩)
    (by kernel_rfl)
#print axioms card_holds
end Go.Proofs.YteabnpahhkicaaaDoor.viewFollows
