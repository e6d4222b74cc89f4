/- What a card on houses gives a walk: two tables, errors.errorType, flags.system as they are laid; a row of deeds that is handed over. -/
import Derived.Test.YtdlfbhbgemoelaaGreatDoorRows
import Derived.Test.YtdlfbhbgemoelaaGreatDoorCards
import Derived.Test.YtdlfbhbgemoelaaGreatDoorTie
import Derived.Test.YtdlfbhbgemoelaaGreatDoorHouT
import Derived.Deep.Slices
import Derived.Deep.Fields
import Derived.Lib.LaidIn
import Derived.LaidHandle
import Derived.Lib.LaidTab
import Derived.Lib.LaidU8T
import Derived.Lib.ValidU
import Derived.Deep.DeepHandedRow
import Derived.Deep.DeepWitnessRowRef
import Derived.ProofKit
import Derived.SizedLaws
import Derived.ShutString
import Derived.SliceStrings
import Derived.Carry
import Derived.ChangeArms
import Derived.SevenTiedAt
namespace Go.Proofs.YtdlfbhbgemoelaaGreatDoor.houCard
open Go.Shelf
open Go.ChangeShapes Go.WideShapes Go.ChangeAt Go.RowKit Go.Lib
open Go.ChangeMaps (open_string shut_string)

theorem laidOut : laidOutB Tryz.prog = true := by kernel_rfl
theorem cellsS : Tryz.prog.cellsOf 9 = 1 := by kernel_rfl
theorem own : ownKnob Tryz.prog.godebug = none := by kernel_rfl
/-- an array of texts that reads as a list of texts -/
theorem cells_of_strs {H : Type} {enc : TypeId × Value → H} {P : Program} {w : World} {base : Nat} {sp : Nat → Bool} {held : Bool} {fuel : Nat} {t e : TypeId} {n : Nat} {cs : List Value} {zs : List (List UInt8)} {p : List MemPlace}
    (ht : P.underlying t = some (.array n e)) (he : P.underlying e = some .string) (hce : P.cellsOf e = 1) (hct : P.cellsOf t = n)
    (h : DataW.trod enc P w base sp held fuel t cs = some (.agg (zs.map fun z => .lit (.string z)), p)) : cs = zs.map fun z => Value.string ⟨z.toArray⟩ := by
  cases fuel with
  | zero => simp [DataW.trod] at h
  | succ fuel =>
    simp only [DataW.trod, ht, hce, hct, Nat.mul_one] at h
    split at h
    · rename_i hl
      obtain ⟨xs, hm, hx⟩ := Option.map_eq_some_iff.1 h
      have hxs : xs.map (·.1) = zs.map fun z => (DataW.lit (.string z) : DataW H) := by
        have := congrArg Prod.fst hx
        simpa using this
      have hxl : xs.length = n := by simpa using mapM_length hm
      have hzl : zs.length = n := by
        have := congrArg List.length hxs
        simp at this
        omega
      apply List.ext_getElem?
      intro i
      by_cases hi : i < n
      · obtain ⟨b, hb, hf⟩ := mapM_at hm i i (by simp [hi])
        obtain ⟨z, hc, rfl, _⟩ := DataW.trod_string he hf
        have h1 : cs[i]? = some (.string z) := by
          have := congrArg (·[0]?) hc
          simpa [List.getElem?_take, List.getElem?_drop] using this
        have h2 : (xs.map (·.1))[i]? = some (DataW.lit (.string z.data.toList) : DataW H) := by simp [hb]
        rw [hxs] at h2
        simp only [List.getElem?_map, Option.map_eq_some_iff, DataW.lit.injEq, Lit.string.injEq] at h2
        obtain ⟨z', hz', rfl⟩ := h2
        simp [h1, hz']
      · rw [List.getElem?_eq_none (by omega), List.getElem?_eq_none (by simp; omega)]
    · cases h
theorem sys_data : (Rows.laid_letterbox_flags_system : DataW Unit) = .agg (sysL.map fun z => .lit (.string z)) := by kernel_rfl
theorem sys_named : Tryz.prog.globalNamed "letterbox/flags.system" = some 4 := by kernel_rfl
theorem sys_type : (Tryz.prog.globals[4]?).map (·.type) = some 155 := by kernel_rfl
theorem sys_cells : Tryz.prog.cellsOf 155 = 5 := by kernel_rfl
/-- what the row's condition gives a walk: flags.system's block -/
theorem sys_of_laid {W : World} (h : laidMet Tryz.prog [("unicode/utf8.acceptRanges", Rows.laid_unicode_utf8_acceptRanges), ("letterbox/flags.system", Rows.laid_letterbox_flags_system), ("unicode/utf8.first", Rows.laid_unicode_utf8_first)] W) : FlagG W := by
  obtain ⟨ps, hv, _, hrow⟩ := h
  obtain ⟨_, _, _, _, _, q0, _, _, _, _, hv, rfl⟩ := hv
  obtain ⟨g', t', cs, fuel, p, q, hg', ht', hvar, hd, _, rfl⟩ := hv
  obtain rfl := Option.some.inj (sys_named.symm.trans hg')
  obtain rfl := Option.some.inj (sys_type.symm.trans ht')
  rw [sys_data] at hd
  have hcs := cells_of_strs Tryz.underlying155 Tryz.underlying9 cellsS sys_cells hd
  have hsz : cs.size = 5 := by
    have := congrArg List.length hcs
    simpa [sysL] using this
  obtain ⟨⟨c, t, hb⟩, _⟩ := hrow 4 0 (List.mem_append_right _ (List.mem_append_left _ (List.mem_append_left _ (MemPlace.mem_row.2 ⟨0, by omega, rfl⟩))))
  refine ⟨t, ?_⟩
  have e : c = cs := by
    unfold World.var? at hvar
    rw [sys_named, Option.bind_some, hb] at hvar
    exact Option.some.inj hvar
  subst e
  rw [hb, ← hcs]

theorem first_eq : Rows.laid_unicode_utf8_first = Lib.firstData := by kernel_rfl
theorem accept_eq : (Rows.laid_unicode_utf8_acceptRanges : DataW Unit) = Lib.acceptData := by kernel_rfl

theorem et : Tryz.prog.globalNamed "errors.errorType" = some 1 := by kernel_rfl
theorem rt : (Tryz.prog.cutTypes.find? (·.1 == "internal/reflectlite.rtype")).map (·.2) = some 142 := by kernel_rfl
theorem oneRow : ((List.range (336 - 100)).filter fun t => Tryz.prog.rowNamed t [101, 114, 114, 111, 114]) = [28] := by kernel_rfl
theorem size : Tryz.prog.types.size = 336 - 100 := by kernel_rfl
/-- what the condition gives a walk: the variable's one cell -/
theorem handle_of_laid {W : World} (h : handlesMet Tryz.prog [("errors.errorType", (Rows.laid_errors_errorType : DataW Unit))] W) : ErrTy W := by
  obtain ⟨name, u, ty, e1, e2, e3, e4, e5⟩ := h _ (List.mem_singleton.2 rfl)
  have en : name = [101, 114, 114, 111, 114] := (Option.some.inj e1).symm
  subst en
  obtain rfl := Option.some.inj (rt.symm.trans e2)
  have hm : ty ∈ (List.range (336 - 100)).filter fun t => Tryz.prog.rowNamed t [101, 114, 114, 111, 114] := List.mem_filter.2 ⟨List.mem_range.2 (by rw [← size]; exact e3), e4⟩
  rw [oneRow] at hm
  obtain rfl := List.mem_singleton.1 hm
  have hh : typeHandle Tryz.prog 28 = .pointer (some ⟨GB, 28, none⟩) := by kernel_rfl
  rw [hh] at e5
  simpa [ErrTy] using World.var?_cell et e5 0

/-- the witness's world: the two tables, flags.system and errors.errorType lie as their initialisers lay them -/
noncomputable def laidWorld (os : Os) : World :=
  let w0 := World.holding Tryz.prog os ⟨#[], #[], []⟩
  let put (h : Array Obj) (g : Nat) (cs : Array Value) : Array Obj := h.modify g fun
    | .cells _ t frozen => .cells cs t frozen
    | o => o
  let h1 := put w0.heap 2 (Lib.firstTab.map fun z => Value.int .u8 z).toArray
  let h2 := put h1 3 ((List.range 16).flatMap fun i => [Value.int .u8 (Lib.accLo i), Value.int .u8 (Lib.accHi i)]).toArray
  let h3 := put h2 4 ((sysL.map fun t => Value.string ⟨t.toArray⟩).toArray)
  let h4 := put h3 1 #[.iface 142 (.agg #[.pointer (some ⟨GB, 28, none⟩)])]
  { w0 with heap := h4 }
/-- a struct of one-cell fields that is handed over: each field's reading -/
theorem struct_ones {H : Type} {enc : TypeId × Value → H} {P : Program} {w : World} {base : Nat} {sp : Nat → Bool} {held : Bool} {t : TypeId} {fs : Array Field} {fuel : Nat} {cs : List Value} {x : DataW H × List MemPlace} (he : P.underlying t = some (.struct fs)) (hone : Go.Deep.oneCellFields P fs = true) (hC : P.cellsOf t = fs.size) (h : DataW.trod enc P w base sp held fuel t cs = some x) :
    ∃ (ys : List (DataW H × List MemPlace)) (n : Nat), x = (.agg (ys.map (·.1)), ys.flatMap (·.2)) ∧ cs.length = fs.size ∧ ys.length = fs.size ∧ ∀ (i : Nat) (f : Field), fs[i]? = some f → ∀ v, cs[i]? = some v → DataW.trod enc P w base sp held n f.type [v] = ys[i]? := by
  obtain ⟨ys, n, _, hx, hl, hy, hg⟩ := DataW.trod_struct he h
  refine ⟨ys, n, hx, hl.trans hC, hy, fun i f hf v hv => ?_⟩
  have h1 := hg i f hf
  obtain ⟨ho, hk⟩ := Go.Deep.hone_of hone i f hf
  obtain ⟨hi, e⟩ := List.getElem?_eq_some_iff.1 hv
  rw [ho, hk, List.drop_eq_getElem_cons hi, e] at h1
  exact h1
theorem cellsD : Tryz.prog.cellsOf 31 = 4 := by kernel_rfl
theorem back_str (s : ByteArray) : (⟨s.data.toList.toArray⟩ : ByteArray) = s := by apply ByteArray.ext; simp
set_option maxRecDepth 100000 in
set_option maxHeartbeats 2000000 in
/-- a deed that is handed over -/
theorem deed_of {H : Type} {enc : TypeId × Value → H} {W : World} {n : Nat} {cs : List Value} {x : DataW H × List MemPlace}
    (hf : DataW.trod enc Tryz.prog W 0 (fun _ => true) true n 31 cs = some x) :
    ∃ d : DeedP, cs = [.int .i64 d.what, .string ⟨d.s.toArray⟩, .string ⟨d.t.toArray⟩, .bool d.yes] ∧ d.s.length ≤ 9223372036854775807 ∧ d.t.length ≤ 9223372036854775807 := by
  obtain ⟨ys, m, rfl, hlen, hyl, hg⟩ := struct_ones Tryz.underlying31 (by kernel_rfl) (by kernel_rfl) hf
  match cs, (show cs.length = 4 from hlen) with
  | [c0, c1, c2, c3], _ =>
    match ys, (show ys.length = 4 from hyl) with
    | [y0, y1, y2, y3], _ =>
      have g0 : DataW.trod enc Tryz.prog W 0 (fun _ => true) true m 3 [c0] = some y0 := hg 0 _ rfl c0 rfl
      have g1 : DataW.trod enc Tryz.prog W 0 (fun _ => true) true m 9 [c1] = some y1 := hg 1 _ rfl c1 rfl
      have g2 : DataW.trod enc Tryz.prog W 0 (fun _ => true) true m 9 [c2] = some y2 := hg 2 _ rfl c2 rfl
      have g3 : DataW.trod enc Tryz.prog W 0 (fun _ => true) true m 4 [c3] = some y3 := hg 3 _ rfl c3 rfl
      obtain ⟨n0, e0, _, w0⟩ := DataW.trod_int Tryz.underlying3 g0
      obtain ⟨s1, e1, _, w1⟩ := DataW.trod_string Tryz.underlying9 g1
      obtain ⟨s2, e2, _, w2⟩ := DataW.trod_string Tryz.underlying9 g2
      obtain ⟨b3, e3, _⟩ := DataW.trod_bool Tryz.underlying4 g3
      simp only [List.cons.injEq, and_true] at e0 e1 e2 e3
      subst e0 e1 e2 e3
      refine ⟨⟨n0, s1.data.toList, s2.data.toList, b3⟩, ?_, ?_, ?_⟩
      · show _ = [_, Value.string ⟨s1.data.toList.toArray⟩, Value.string ⟨s2.data.toList.toArray⟩, _]
        rw [back_str, back_str]
      · have e := Lib.size_eq s1
        unfold maxLen at w1
        show s1.data.toList.length ≤ _
        omega
      · have e := Lib.size_eq s2
        unfold maxLen at w2
        show s2.data.toList.length ≤ _
        omega
set_option maxRecDepth 100000 in
set_option maxHeartbeats 2000000 in
/-- a row of deeds that is handed over, as the walks read it -/
theorem deeds_of {H : Type} {enc : TypeId × Value → H} {W : World} {a0 : Option Addr} {len cap : Nat} {d : DataW H} {p : List MemPlace} {fuel : Nat}
    (hf : DataW.trod enc Tryz.prog W 0 (fun _ => true) true fuel 22 (Value.slice a0 len cap).cells.toList = some (d, p)) (hlt : ∀ x ∈ p, x.block < W.heap.size) :
    ∃ l : List DeedP, DRow W (.slice a0 len cap) l ∧ ∀ x ∈ l, x.s.length ≤ 9223372036854775807 ∧ x.t.length ≤ 9223372036854775807 := by
  rcases Go.Deep.open_slice Tryz.underlying22 hf with ⟨hcs, hx⟩ | ⟨a, len', cap', m, n, D, Pl, hcs, _, hl, hm, hmm, hx, hi⟩
  · simp [Value.cells] at hcs
    obtain ⟨rfl, rfl, rfl⟩ := hcs
    exact ⟨[], ⟨none, 0, rfl, Nat.le_refl _, ⟨by decide, fun _ => rfl⟩, fun j n hj => by simp at hj⟩, fun t ht => (by cases ht)⟩
  · simp [Value.cells] at hcs
    obtain ⟨rfl, rfl, rfl⟩ := hcs
    simp only [if_true] at hmm
    obtain rfl := hmm.symm
    simp only [Prod.mk.injEq] at hx
    obtain ⟨_, rfl⟩ := hx
    rw [cellsD] at hi hlt
    have hk : ∀ j : Fin len, ∃ x : DeedP, (x.s.length ≤ 9223372036854775807 ∧ x.t.length ≤ 9223372036854775807) ∧ ∀ (i : Nat) (u : Value), ([.int .i64 x.what, .string ⟨x.s.toArray⟩, .string ⟨x.t.toArray⟩, .bool x.yes] : List Value)[i]? = some u → W.cell? ((a.add (j.1 * 4)).add i) = some u := fun j => by
      have hjm : j.1 < cap := Nat.lt_of_lt_of_le j.2 hl
      obtain ⟨cs', hc, ht⟩ := hi j.1 hjm
      obtain ⟨_, hcl, hat⟩ := World.cells?_some hc
      obtain ⟨x, rfl, h1⟩ := deed_of ht
      refine ⟨x, h1, fun i u hu => ?_⟩
      have hi4 : i < 4 := by
        have := (List.getElem?_eq_some_iff.1 hu).1
        simpa using this
      rw [hat i hi4]
      exact hu
    obtain ⟨f, hf2⟩ := Classical.axiomOfChoice hk
    have hlen : (List.ofFn f).length = len := by simp
    have hget : ∀ (j : Nat) (x : DeedP), (List.ofFn f)[j]? = some x → ∃ h : j < len, x = f ⟨j, h⟩ := fun j x hj => by
      have h : j < len := by rw [← hlen]; exact (List.getElem?_eq_some_iff.1 hj).1
      refine ⟨h, ?_⟩
      simp [h] at hj
      exact hj.symm
    refine ⟨List.ofFn f, ⟨some a, cap, by rw [hlen], by rw [hlen]; exact hl, ⟨by unfold maxLen at hm; omega, fun h => by cases h⟩, fun j x hj => ?_⟩, fun x hx => ?_⟩
    · obtain ⟨hjl, rfl⟩ := hget j x hj
      obtain ⟨_, hc⟩ := hf2 ⟨j, hjl⟩
      obtain ⟨b, off, spot⟩ := a
      have hspot : spot = none := by
        obtain ⟨_, hc0⟩ := hf2 ⟨0, by omega⟩
        simpa [Addr.add] using World.cell?_spot (hc0 0 _ rfl)
      subst hspot
      have hbW : b < W.heap.size := hlt (.cell b (off + j * 4)) (List.mem_append_left _ (MemPlace.mem_row.2 ⟨j * 4, by omega, by simp⟩))
      have hc' : ∀ (i : Nat) (u : Value), ([.int .i64 (f ⟨j, hjl⟩).what, .string ⟨(f ⟨j, hjl⟩).s.toArray⟩, .string ⟨(f ⟨j, hjl⟩).t.toArray⟩, .bool (f ⟨j, hjl⟩).yes] : List Value)[i]? = some u → W.cell? ⟨b, off + j * 4 + i, none⟩ = some u := fun i u hu => by
        have := hc i u hu
        rwa [add_pl, add_pl] at this
      exact ⟨b, off, rfl, hbW, hc' 0 _ rfl, hc' 1 _ rfl, hc' 2 _ rfl, hc' 3 _ rfl⟩
    · obtain ⟨j, hj⟩ := List.getElem?_of_mem hx
      obtain ⟨h, rfl⟩ := hget j x hj
      exact (hf2 _).1
/-- what a card on houses gives a walk -/
theorem given_of {W : World} (hL : laidMetH Tryz.prog [("unicode/utf8.acceptRanges", Rows.laid_unicode_utf8_acceptRanges), ("errors.errorType", Rows.laid_errors_errorType), ("letterbox/flags.system", Rows.laid_letterbox_flags_system), ("unicode/utf8.first", Rows.laid_unicode_utf8_first)] W) (hsh : W.ShapedOpen Tryz.prog) : ErrTy W ∧ Tabs W ∧ FlagG W ∧ ∃ m, W.cell? ⟨0, 0, none⟩ = some (.int .i64 m) := by
  have hL' : laidMet Tryz.prog [("unicode/utf8.acceptRanges", Rows.laid_unicode_utf8_acceptRanges), ("letterbox/flags.system", Rows.laid_letterbox_flags_system), ("unicode/utf8.first", Rows.laid_unicode_utf8_first)] W ∧ handlesMet Tryz.prog [("errors.errorType", (Rows.laid_errors_errorType : DataW Unit))] W := hL
  have r4 := Lib.laidMet.reads hL'.1 (.head _)
  have r3 := Lib.laidMet.reads hL'.1 (.tail _ (.tail _ (.head _)))
  rw [first_eq] at r3
  rw [accept_eq] at r4
  exact ⟨handle_of_laid hL'.2, utf8Tabs_of_readsT (U8Types.of196 Tryz.laysValid) ⟨by kernel_rfl, by kernel_rfl, by kernel_rfl, by kernel_rfl, by kernel_rfl, by kernel_rfl, by kernel_rfl⟩ r3 r4, sys_of_laid hL'.1, Tryz.laysM145.s1_3 W hsh⟩
end Go.Proofs.YtdlfbhbgemoelaaGreatDoor.houCard
