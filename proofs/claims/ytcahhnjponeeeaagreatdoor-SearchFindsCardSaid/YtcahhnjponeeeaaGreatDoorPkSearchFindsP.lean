/- What the laid variables of SearchFinds give a walk; how a letter that is handed over reads; five parameters. No condition beyond those each names. The statement SearchFindsCardSaid: letterboxlaw.SearchFinds returns true of any text, any letter and any three numbers. Conditions: none beyond the card's own: strconv's table of powers and its two errors, errors.errorType, flags.system and letterboxref.Fine lie as the program's text lays them, which the card ties; bytealg.MaxLen lies, as in every world that the program shapes. -/
import Derived.Test.YtcahhnjponeeeaaGreatDoorRows
import Derived.Test.YtcahhnjponeeeaaGreatDoorCards
import Derived.Test.YtcahhnjponeeeaaGreatDoorTie
import Derived.Lib.LaidIn
import Derived.Lib.LaidTab
import Derived.Lib.LaidU8T
import Derived.PinnedBridge
import Derived.Stop.LaidErr
import Derived.ChangeShapes
import Derived.Deep.Slices
import Derived.Deep.Fields
import Derived.ChangeSlices
import Derived.SliceStrings
import Derived.Deep.DeepHandedRow
import Derived.Deep.DeepWitnessRowRef
import Derived.ProofKit
import Derived.SizedLaws
import Derived.ShutString
import Derived.Carry
import Derived.SevenTiedAt
import Derived.LaidHandle
import Derived.Test.YtcahhnjponeeeaaGreatDoorPkCmdD
import Derived.Test.YtcahhnjponeeeaaGreatDoorPkSrchS
import Derived.Test.YtcahhnjponeeeaaGreatDoorPkFindsV
namespace Go.Proofs.YtcahhnjponeeeaaGreatDoor.fnd
open Go.Shelf
open Go.ChangeShapes Go.WideShapes Go.ChangeAt Go.RowKit Go.Lib
open Go.ChangeMaps (open_string shut_string)
theorem own : ownKnob Tryz.prog.godebug = none := by kernel_rfl
theorem laidOut : laidOutB Tryz.prog = true := by kernel_rfl
theorem pow_eq : (Rows.laid_internal_strconv_uint64pow10 : DataW Unit) = Lib.tabData .u64 Lib.pow10Tab := by kernel_rfl
theorem et : Tryz.prog.globalNamed "errors.errorType" = some 3 := by kernel_rfl
theorem rt : (Tryz.prog.cutTypes.find? (·.1 == "internal/reflectlite.rtype")).map (·.2) = some 202 := by kernel_rfl
theorem oneRow : ((List.range (366 - 100)).filter fun t => Tryz.prog.rowNamed t [101, 114, 114, 111, 114]) = [37] := by kernel_rfl
theorem size : Tryz.prog.types.size = 366 - 100 := by kernel_rfl
/-- what the condition gives a walk: the variable's one cell -/
theorem handle_of_laid {W : World} (h : handlesMet Tryz.prog [("errors.errorType", (Rows.laid_errors_errorType : DataW Unit))] W) : ErrTy W := by
  obtain ⟨name, u, ty, e1, e2, e3, e4, e5⟩ := h _ (List.mem_singleton.2 rfl)
  have en : name = [101, 114, 114, 111, 114] := (Option.some.inj e1).symm
  subst en
  obtain rfl := Option.some.inj (rt.symm.trans e2)
  have hm : ty ∈ (List.range (366 - 100)).filter fun t => Tryz.prog.rowNamed t [101, 114, 114, 111, 114] := List.mem_filter.2 ⟨List.mem_range.2 (by rw [← size]; exact e3), e4⟩
  rw [oneRow] at hm
  obtain rfl := List.mem_singleton.1 hm
  have hh : typeHandle Tryz.prog 37 = .pointer (some ⟨GB, 37, none⟩) := by kernel_rfl
  rw [hh] at e5
  simpa [ErrTy] using World.var?_cell et e5 0
theorem cellsS : Tryz.prog.cellsOf 9 = 1 := by kernel_rfl
/-- an array of texts that reads as a list of texts -/
theorem cells_of_strs {H : Type} {enc : TypeId × Value → H} {P : Program} {w : World} {base : Nat} {sp : Nat → Bool} {held : Bool} {fuel : Nat} {t e : TypeId} {n : Nat} {cs : List Value} {zs : List (List UInt8)} {p : List MemPlace}
    (ht : P.underlying t = some (.array n e)) (he : P.underlying e = some .string) (hce : P.cellsOf e = 1) (hct : P.cellsOf t = n)
    (h : DataW.trod enc P w base sp held fuel t cs = some (.agg (zs.map fun z => .lit (.string z)), p)) : cs = zs.map fun z => Value.string ⟨z.toArray⟩ := by
  cases fuel with
  | zero => simp [DataW.trod] at h
  | succ fuel =>
    simp only [DataW.trod, ht, hce, hct, Nat.mul_one] at h
    split at h
    · rename_i hl
      obtain ⟨xs, hm, hx⟩ := Option.map_eq_some_iff.1 h
      have hxs : xs.map (·.1) = zs.map fun z => (DataW.lit (.string z) : DataW H) := by
        have := congrArg Prod.fst hx
        simpa using this
      have hxl : xs.length = n := by simpa using mapM_length hm
      have hzl : zs.length = n := by
        have := congrArg List.length hxs
        simp at this
        omega
      apply List.ext_getElem?
      intro i
      by_cases hi : i < n
      · obtain ⟨b, hb, hf⟩ := mapM_at hm i i (by simp [hi])
        obtain ⟨z, hc, rfl, _⟩ := DataW.trod_string he hf
        have h1 : cs[i]? = some (.string z) := by
          have := congrArg (·[0]?) hc
          simpa [List.getElem?_take, List.getElem?_drop] using this
        have h2 : (xs.map (·.1))[i]? = some (DataW.lit (.string z.data.toList) : DataW H) := by simp [hb]
        rw [hxs] at h2
        simp only [List.getElem?_map, Option.map_eq_some_iff, DataW.lit.injEq, Lit.string.injEq] at h2
        obtain ⟨z', hz', rfl⟩ := h2
        simp [h1, hz']
      · rw [List.getElem?_eq_none (by omega), List.getElem?_eq_none (by simp; omega)]
    · cases h
/-- the cells of a table that is laid -/
def laidCells : DataW Unit → Array Value
  | .agg l => (l.map fun x => match x with
    | .lit (.int k z) => Value.int k z
    | _ => .nilIface).toArray
  | _ => #[]
abbrev synS : ByteArray := { data := #[105, 110, 118, 97, 108, 105, 100, 32, 115, 121, 110, 116, 97, 120] }
abbrev rngS : ByteArray := { data := #[118, 97, 108, 117, 101, 32, 111, 117, 116, 32, 111, 102, 32, 114, 97, 110, 103, 101] }
/-- the witness's world: the tables and the errors lie as their initialisers lay them -/
noncomputable def laidWorld (os : Os) : World :=
  let N := (World.settled Tryz.prog os).heap.size
  let w0 := World.holding Tryz.prog os ⟨#[.cells #[.string synS] 232, .cells #[.string rngS] 232], #[], []⟩
  let put (h : Array Obj) (g : Nat) (cs : Array Value) : Array Obj := h.modify g fun
    | .cells _ t frozen => .cells cs t frozen
    | o => o
  let h1 := put w0.heap 9 (laidCells Rows.laid_math_bits_deBruijn32tab)
  let h2 := put h1 10 (laidCells Rows.laid_math_bits_deBruijn64tab)
  let h3 := put h2 8 (laidCells Rows.laid_internal_strconv_uint64pow10)
  let h4 := put h3 6 #[.iface 230 (.pointer (some ⟨N, 0, none⟩))]
  let h5 := put h4 7 #[.iface 230 (.pointer (some ⟨N + 1, 0, none⟩))]
  let h6 := put h5 4 (Lib.firstTab.map fun z => Value.int .u8 z).toArray
  let h7 := put h6 5 ((List.range 16).flatMap fun i => [Value.int .u8 (Lib.accLo i), Value.int .u8 (Lib.accHi i)]).toArray
  let h8 := put h7 3 #[.iface 202 (.agg #[.pointer (some ⟨GB, 37, none⟩)])]
  let h9 := put h8 2 ((sysL.map fun t => Value.string ⟨t.toArray⟩).toArray)
  let h10 := put h9 0 #[.int .i64 0, .int .i64 (-1)]
  { w0 with heap := h10 }
def plainLaid : List (String × DataW Unit) := [("math/bits.deBruijn32tab", Rows.laid_math_bits_deBruijn32tab), ("math/bits.deBruijn64tab", Rows.laid_math_bits_deBruijn64tab), ("internal/strconv.uint64pow10", Rows.laid_internal_strconv_uint64pow10), ("unicode/utf8.acceptRanges", Rows.laid_unicode_utf8_acceptRanges), ("strconv.ErrRange", Rows.laid_strconv_ErrRange), ("strconv.ErrSyntax", Rows.laid_strconv_ErrSyntax), ("letterbox/flags.system", Rows.laid_letterbox_flags_system), ("letterbox/letterboxref.Fine", Rows.laid_letterbox_letterboxref_Fine), ("unicode/utf8.first", Rows.laid_unicode_utf8_first)]
noncomputable def low : Nat := (World.settled Tryz.prog default).heap.size
theorem gER : Tryz.prog.globalNamed "strconv.ErrRange" = some 7 := by kernel_rfl
theorem gERT : (Tryz.prog.globals[7]?).map (·.type) = some 37 := by kernel_rfl
theorem gES : Tryz.prog.globalNamed "strconv.ErrSyntax" = some 6 := by kernel_rfl
theorem gEST : (Tryz.prog.globals[6]?).map (·.type) = some 37 := by kernel_rfl
theorem star : "*" ++ "errors.errorString" = "*errors.errorString" := by decide
theorem rowES (u : TypeId) (h : Tryz.prog.typeName? 3 u = some "*errors.errorString") : u = 230 :=
  typeName_ptr_named (nm := "errors.errorString") (by rw [star]; kernel_rfl) (by kernel_rfl) (by decide) u (by rw [star]; exact h)
theorem strG_of_laid {W : World} (h : laidMet Tryz.prog plainLaid W) : StrG W := by
  have h3 := h.tail.tail
  have h4 := h3.tail.tail
  obtain ⟨a0, s0, hv0, -, -, -⟩ := laid_sentinel h4 gER gERT Tryz.underlying37 rowES Tryz.underlying230 Tryz.underlying232 rfl rfl Tryz.underlying9 (by kernel_rfl) (by kernel_rfl)
  obtain ⟨a1, s1, hv1, -, -, -⟩ := laid_sentinel h4.tail gES gEST Tryz.underlying37 rowES Tryz.underlying230 Tryz.underlying232 rfl rfl Tryz.underlying9 (by kernel_rfl) (by kernel_rfl)
  rw [pow_eq] at h3
  exact ⟨Lib.tabIs_of_head (g := 8) (by kernel_rfl) (by kernel_rfl) Tryz.underlying234 Tryz.underlying217 (by kernel_rfl) (by kernel_rfl) h3, ⟨_, _, hv1⟩, ⟨_, _, hv0⟩⟩
theorem sys_data : (Rows.laid_letterbox_flags_system : DataW Unit) = .agg (sysL.map fun z => .lit (.string z)) := by kernel_rfl
theorem sys_named : Tryz.prog.globalNamed "letterbox/flags.system" = some 2 := by kernel_rfl
theorem sys_type : (Tryz.prog.globals[2]?).map (·.type) = some 173 := by kernel_rfl
theorem sys_cells : Tryz.prog.cellsOf 173 = 5 := by kernel_rfl
/-- what the row's condition gives a walk: flags.system's block -/
theorem sys_of_laid {W : World} (h0 : laidMet Tryz.prog plainLaid W) : FlagG W := by
  have h := h0.tail.tail.tail.tail.tail.tail
  obtain ⟨ps, hv, _, hrow⟩ := h
  obtain ⟨g', t', cs, fuel, p, q, hg', ht', hvar, hd, _, rfl⟩ := hv
  obtain rfl := Option.some.inj (sys_named.symm.trans hg')
  obtain rfl := Option.some.inj (sys_type.symm.trans ht')
  rw [sys_data] at hd
  have hcs := cells_of_strs Tryz.underlying173 Tryz.underlying9 cellsS sys_cells hd
  have hsz : cs.size = 5 := by
    have := congrArg List.length hcs
    simpa [sysL] using this
  obtain ⟨⟨c, t, hb⟩, _⟩ := hrow 2 0 (List.mem_append_left _ (List.mem_append_left _ (MemPlace.mem_row.2 ⟨0, by omega, rfl⟩)))
  refine ⟨t, ?_⟩
  have e : c = cs := by
    unfold World.var? at hvar
    rw [sys_named, Option.bind_some, hb] at hvar
    exact Option.some.inj hvar
  subst e
  rw [hb, ← hcs]
theorem fine_type : (Tryz.prog.globals[0]?).map (·.type) = some 50 := by kernel_rfl
theorem fine_named : Tryz.prog.globalNamed "letterbox/letterboxref.Fine" = some 0 := by kernel_rfl
theorem fine_of_laid {W : World} (h : laidMet Tryz.prog plainLaid W) : FineG W := by
  obtain ⟨g, t, cs, fuel, p, h1, h2, h3, h4⟩ := Lib.laidMet.reads h (.tail _ (.tail _ (.tail _ (.tail _ (.tail _ (.tail _ (.tail _ (.head _))))))))
  obtain rfl := Option.some.inj (fine_named.symm.trans h1)
  obtain rfl := Option.some.inj (fine_type.symm.trans h2)
  have e : cs.toList = ([0, -1] : List Int).map fun z => Value.int .i64 z := Lib.ints_of_struct Tryz.underlying50 (fun i f hf => by
    match i, hf with
    | 0, hf => cases hf; exact ⟨by kernel_rfl, rfl, by kernel_rfl⟩
    | 1, hf => cases hf; exact ⟨by kernel_rfl, rfl, by kernel_rfl⟩) (by kernel_rfl) h4
  have e2 : cs = #[.int .i64 0, .int .i64 (-1)] := by apply Array.toList_inj.1; rw [e]; rfl
  subst e2
  exact ⟨by simpa using World.var?_cell fine_named h3 0, by simpa using World.var?_cell fine_named h3 1⟩
/-- a row of strings that is handed over, as the walks read it -/
theorem row_of {H : Type} {enc : TypeId × Value → H} {W : World} {a0 : Option Addr} {len cap : Nat} {d : DataW H} {p : List MemPlace} {fuel : Nat}
    (hf : DataW.trod enc Tryz.prog W 0 (fun _ => true) true fuel 22 (Value.slice a0 len cap).cells.toList = some (d, p)) (hlt : ∀ x ∈ p, x.block < W.heap.size) :
    ∃ l : List (List UInt8), SRow W (.slice a0 len cap) l ∧ ∀ t ∈ l, t.length ≤ 9223372036854775807 := by
  rcases open_strings Tryz.underlying22 Tryz.underlying9 cellsS hf with ⟨hcs, hx⟩ | ⟨a, len', cap', ss, hcs, _, hl, hm, hz, hx, hcell, hws⟩
  · simp [Value.cells] at hcs
    obtain ⟨rfl, rfl, rfl⟩ := hcs
    exact ⟨[], ⟨none, 0, rfl, Nat.le_refl _, ⟨by decide, fun _ => rfl⟩, fun j n hj => by simp at hj⟩, fun t ht => by cases ht⟩
  · simp [Value.cells] at hcs
    obtain ⟨rfl, rfl, rfl⟩ := hcs
    simp only [Prod.mk.injEq] at hx
    obtain ⟨rfl, rfl⟩ := hx
    simp only [if_true] at hz
    unfold maxLen at hm
    have hlen : ((ss.take len).map (·.data.toList)).length = len := by simp; omega
    refine ⟨(ss.take len).map (·.data.toList), ⟨some a, cap, by rw [hlen], by rw [hlen]; exact hl, ⟨by omega, fun h => by cases h⟩, fun j n hj => ?_⟩, fun t ht => ?_⟩
    · rw [List.getElem?_map] at hj
      obtain ⟨y, hy, rfl⟩ := Option.map_eq_some_iff.1 hj
      have hjl : j < len := by
        have := (List.getElem?_eq_some_iff.1 hy).1
        rw [List.length_take] at this; omega
      rw [List.getElem?_take, if_pos hjl] at hy
      obtain ⟨b, off, spot⟩ := a
      have hc := hcell j (by omega)
      have hspot : spot = none := by simpa [Addr.add] using World.cell?_spot (hcell 0 (by omega))
      subst hspot
      have hbW : b < W.heap.size := hlt (.cell b (off + j)) (MemPlace.mem_row.2 ⟨j, by omega, by simp⟩)
      refine ⟨b, off, rfl, hbW, ?_⟩
      rw [← add_pl, hc]
      have e : ss.getD j ByteArray.empty = y := by rw [List.getD, hy]; rfl
      rw [e]
    · obtain ⟨y, hy, rfl⟩ := List.mem_map.1 ht
      have := hws y (List.mem_of_mem_take hy)
      unfold maxLen at this
      have e := Lib.size_eq y
      omega
/-- a struct of one-cell fields that is handed over: each field's reading -/
theorem struct_ones {H : Type} {enc : TypeId × Value → H} {P : Program} {w : World} {base : Nat} {sp : Nat → Bool} {held : Bool} {t : TypeId} {fs : Array Field} {fuel : Nat} {cs : List Value} {x : DataW H × List MemPlace} (he : P.underlying t = some (.struct fs)) (hone : Go.Deep.oneCellFields P fs = true) (hC : P.cellsOf t = fs.size) (h : DataW.trod enc P w base sp held fuel t cs = some x) :
    ∃ (ys : List (DataW H × List MemPlace)) (n : Nat), x = (.agg (ys.map (·.1)), ys.flatMap (·.2)) ∧ cs.length = fs.size ∧ ys.length = fs.size ∧ ∀ (i : Nat) (f : Field), fs[i]? = some f → ∀ v, cs[i]? = some v → DataW.trod enc P w base sp held n f.type [v] = ys[i]? := by
  obtain ⟨ys, n, _, hx, hl, hy, hg⟩ := DataW.trod_struct he h
  refine ⟨ys, n, hx, hl.trans hC, hy, fun i f hf v hv => ?_⟩
  have h1 := hg i f hf
  obtain ⟨ho, hk⟩ := Go.Deep.hone_of hone i f hf
  obtain ⟨hi, e⟩ := List.getElem?_eq_some_iff.1 hv
  rw [ho, hk, List.drop_eq_getElem_cons hi, e] at h1
  exact h1
set_option maxRecDepth 100000 in
set_option maxHeartbeats 2000000 in
/-- a letter that is handed over -/
theorem letter_of {H : Type} {enc : TypeId × Value → H} {W : World} {n : Nat} {cs : List Value} {x : DataW H × List MemPlace}
    (hf : DataW.trod enc Tryz.prog W 0 (fun _ => true) true n 24 cs = some x) (hlt : ∀ y ∈ x.2, y.block < W.heap.size) :
    ∃ (uid day : Int) (flags : List (List UInt8)) (text : List UInt8) (fv : Value), cs = [.int .i64 uid, fv, .int .i64 day, .string ⟨text.toArray⟩] ∧ SRow W fv flags ∧ (∀ t ∈ flags, t.length ≤ 9223372036854775807) ∧ text.length ≤ 9223372036854775807 := by
  obtain ⟨ys, m, rfl, hlen, hyl, hg⟩ := struct_ones Tryz.underlying24 (by kernel_rfl) (by kernel_rfl) hf
  match cs, (show cs.length = 4 from hlen) with
  | [c0, c1, c2, c3], _ =>
    match ys, (show ys.length = 4 from hyl) with
    | [y0, y1, y2, y3], _ =>
      have g0 : DataW.trod enc Tryz.prog W 0 (fun _ => true) true m 3 [c0] = some y0 := hg 0 _ rfl c0 rfl
      have g1 : DataW.trod enc Tryz.prog W 0 (fun _ => true) true m 22 [c1] = some y1 := hg 1 _ rfl c1 rfl
      have g2 : DataW.trod enc Tryz.prog W 0 (fun _ => true) true m 3 [c2] = some y2 := hg 2 _ rfl c2 rfl
      have g3 : DataW.trod enc Tryz.prog W 0 (fun _ => true) true m 9 [c3] = some y3 := hg 3 _ rfl c3 rfl
      obtain ⟨n0, e0, _, _⟩ := DataW.trod_int Tryz.underlying3 g0
      obtain ⟨n2, e2, _, _⟩ := DataW.trod_int Tryz.underlying3 g2
      obtain ⟨s, e3, _, w3⟩ := DataW.trod_string Tryz.underlying9 g3
      simp only [List.cons.injEq, and_true] at e0 e2 e3
      subst e0 e2 e3
      obtain ⟨a0, len, cap, hc1⟩ : ∃ a0 len cap, c1 = .slice a0 len cap := by
        rcases open_strings Tryz.underlying22 Tryz.underlying9 cellsS g1 with ⟨hcs, _⟩ | ⟨a, len', cap', ss, hcs, _⟩
        · simp only [List.cons.injEq, and_true] at hcs
          exact ⟨_, _, _, hcs⟩
        · simp only [List.cons.injEq, and_true] at hcs
          exact ⟨_, _, _, hcs⟩
      subst hc1
      obtain ⟨d1, p1⟩ := y1
      obtain ⟨l, hl, ht⟩ := row_of (a0 := a0) (len := len) (cap := cap) g1 (fun y hy => hlt y (by simp [hy]))
      refine ⟨n0, n2, l, s.data.toList, .slice a0 len cap, ?_, hl, ht, ?_⟩
      · have : (⟨s.data.toList.toArray⟩ : ByteArray) = s := by apply ByteArray.ext; simp
        rw [this]
      · have e := Lib.size_eq s
        unfold maxLen at w3
        omega
section
variable {H : Type} {enc : TypeId × Value → H} {P : Program} {w : World} {base : Nat} {spare : Nat → Bool} {held : Bool}
theorem trodAll_five {t t' t'' t3 t4 : TypeId} {args : Array Value} {ds : List (DataW H)} {ps : List MemPlace} (h : DataW.TrodAll enc P w base spare held [t, t', t'', t3, t4] args.toList ds ps) :
    ∃ v v' v'' v3 v4 d d' d'' d3 d4 p p' p'' p3 p4, args = #[v, v', v'', v3, v4] ∧ ds = [d, d', d'', d3, d4] ∧ ps = p ++ p' ++ p'' ++ p3 ++ p4 ∧ DataW.Trod enc P w base spare held t v d p ∧ DataW.Trod enc P w base spare held t' v' d' p' ∧ DataW.Trod enc P w base spare held t'' v'' d'' p'' ∧ DataW.Trod enc P w base spare held t3 v3 d3 p3 ∧ DataW.Trod enc P w base spare held t4 v4 d4 p4 := by
  obtain ⟨v, vs, d, ds', p, q, hargs, rfl, rfl, hd, hrest⟩ := trodAll_cons h
  obtain ⟨v', vs', d', ds'', p', q', rfl, rfl, rfl, hd', hrest'⟩ := trodAll_cons hrest
  obtain ⟨v'', vs'', d'', ds''', p'', q'', rfl, rfl, rfl, hd'', hrest''⟩ := trodAll_cons hrest'
  obtain ⟨v3, vs3, d3, ds3, p3, q3, rfl, rfl, rfl, hd3, hrest3⟩ := trodAll_cons hrest''
  obtain ⟨v4, vs4, d4, ds4, p4, q4, rfl, rfl, rfl, hd4, hrest4⟩ := trodAll_cons hrest3
  obtain ⟨rfl, rfl, rfl⟩ := trodAll_nil hrest4
  exact ⟨v, v', v'', v3, v4, d, d', d'', d3, d4, p, p', p'', p3, p4, by cases args; simp_all, rfl, by simp, hd, hd', hd'', hd3, hd4⟩
theorem trodAll_mk5 {t t' t'' t3 t4 : TypeId} {v v' v'' v3 v4 : Value} {d d' d'' d3 d4 : DataW H} {p p' p'' p3 p4 : List MemPlace} (h : DataW.Trod enc P w base spare held t v d p) (h' : DataW.Trod enc P w base spare held t' v' d' p')
    (h'' : DataW.Trod enc P w base spare held t'' v'' d'' p'') (h3 : DataW.Trod enc P w base spare held t3 v3 d3 p3) (h4 : DataW.Trod enc P w base spare held t4 v4 d4 p4) : DataW.TrodAll enc P w base spare held [t, t', t'', t3, t4] [v, v', v'', v3, v4] [d, d', d'', d3, d4] (p ++ (p' ++ (p'' ++ (p3 ++ p4)))) := ⟨p, p' ++ (p'' ++ (p3 ++ p4)), h, trodAll_mk4 h' h'' h3 h4, rfl⟩
end
end Go.Proofs.YtcahhnjponeeeaaGreatDoor.fnd
namespace Go.Proofs.YtcahhnjponeeeaaGreatDoor.searchFinds
open Go.Shelf
open Go.ChangeShapes Go.WideShapes Go.ChangeAt Go.RowKit Go.Lib
open Go.ChangeMaps (open_string shut_string)
open Go.Proofs.YtcahhnjponeeeaaGreatDoor.fnd
theorem laid_met (os : Os) (args : Array Value) : laidMetH Tryz.prog Rows.searchFindsRow.laid ((laidWorld os).forCall (fun _ _ => 0) ⟨#[], args, []⟩).memory :=
  laidMetH_of_parts
    (LaidIn.of_run (l := plainLaid) [9, 10, 8, 5, 7, 6, 2, 0, 4, low, low + 1] 8 (by kernel_rfl) (by kernel_rfl) (by kernel_rfl) (by kernel_rfl)).met
    (by kernel_rfl)
theorem witness_row (os : Os) {H : Type} (enc : TypeId × Value → H) :
    (OpenSpec.ofChange Rows.searchFindsSpec).preRow enc Tryz.prog Tryz.f3 Rows.searchFindsRow.domain false Rows.searchFindsRow.laid ((laidWorld os).forCall (fun _ _ => 0) ⟨#[], #[.string ⟨#[]⟩, .agg #[.int .i64 0, .slice none 0 0, .int .i64 0, .string ⟨#[]⟩], .int .i64 0, .int .i64 0, .int .i64 0], []⟩).memory #[.string ⟨#[]⟩, .agg #[.int .i64 0, .slice none 0 0, .int .i64 0, .string ⟨#[]⟩], .int .i64 0, .int .i64 0, .int .i64 0] := by
  have hw : (DataW.whole enc Tryz.prog ((laidWorld os).forCall (fun _ _ => 0) ⟨#[], #[.string ⟨#[]⟩, .agg #[.int .i64 0, .slice none 0 0, .int .i64 0, .string ⟨#[]⟩], .int .i64 0, .int .i64 0, .int .i64 0], []⟩).memory Tryz.f3.params.toList (OpenSpec.ofChange Rows.searchFindsSpec).vars false #[Value.string ⟨#[]⟩, Value.agg #[.int .i64 0, .slice none 0 0, .int .i64 0, .string ⟨#[]⟩], Value.int .i64 0, Value.int .i64 0, Value.int .i64 0].toList 8).map (fun x => (x.1, x.2.1)) =
      some ([.lit (.string []), .agg [.lit (.int .i64 0), .nil, .lit (.int .i64 0), .lit (.string [])], .lit (.int .i64 0), .lit (.int .i64 0), .lit (.int .i64 0)], []) := by kernel_rfl
  obtain ⟨⟨x1, x2, x3⟩, hx, hx1⟩ := Option.map_eq_some_iff.1 hw
  simp only [Prod.mk.injEq] at hx1
  obtain ⟨rfl, rfl⟩ := hx1
  exact OpenSpec.preRow_of_cond 8 hx (by kernel_rfl) (fun k hk => by cases hk) (by kernel_rfl) (laid_met os _)
set_option maxRecDepth 100000 in
set_option maxHeartbeats 2000000 in
theorem lifted (os : Os) (started : os.Started) (H : Type) (enc : TypeId × Value → H) (F : Stop.Interp) :
    ReturnsInHanded {} Tryz.checked os 3 .any ((OpenSpec.ofChange Rows.searchFindsSpec).preRow enc Tryz.prog Tryz.f3 Rows.searchFindsRow.domain false Rows.searchFindsRow.laid) (((OpenSpec.ofChange Rows.searchFindsSpec).at F).post enc Tryz.prog Tryz.f3 false true false false) := by
  refine returnsInHanded_of_row (C := Tryz.checked) (s := OpenSpec.ofChange Rows.searchFindsSpec) own started (by kernel_rfl) Tryz.func3
    (witness_row_atRef (enc := enc) (C := Tryz.checked) false (laidWorld os) #[.string ⟨#[]⟩, .agg #[.int .i64 0, .slice none 0 0, .int .i64 0, .string ⟨#[]⟩], .int .i64 0, .int .i64 0, .int .i64 0] rfl (by kernel_rfl) (by kernel_rfl) (by kernel_rfl) (witness_row os enc)) ?_
  intro W base args ds gs before hval0 hW _ _ _ hL hsh _
  have hval : ∀ (j : Nat) t v, Tryz.f3.params[j]? = some t → args[j]? = some v → Value.okWide Tryz.prog W .any base t v := hval0
  have hW' := hW
  obtain ⟨p, q, hA0, hV0, rfl, _, _⟩ := hW
  have hA : DataW.TrodAll enc Tryz.prog W 0 (fun _ => true) true Tryz.f3.params.toList args.toList ds p := hA0
  rw [Tryz.params3] at hA hval
  obtain ⟨v0, v1, v2, v3, v4, d0, d1, d2, d3, d4, p0, p1, p2, p3, p4, rfl, rfl, rfl, h0, h1, h2, h3, h4⟩ := trodAll_five hA
  obtain ⟨rfl, rfl⟩ := trodVars_none hV0
  obtain ⟨s, rfl, rfl, rfl, ws⟩ := open_string Tryz.underlying9 (hval 0 9 v0 rfl rfl) h0
  obtain ⟨c1, rfl, -⟩ := okWide_struct Tryz.underlying24 (hval 1 24 v1 rfl rfl)
  obtain ⟨n2, rfl, rfl, rfl, w2⟩ := open_int Tryz.underlying3 (hval 2 3 v2 rfl rfl) h2
  obtain ⟨n3, rfl, rfl, rfl, w3⟩ := open_int Tryz.underlying3 (hval 3 3 v3 rfl rfl) h3
  obtain ⟨n4, rfl, rfl, rfl, w4⟩ := open_int Tryz.underlying3 (hval 4 3 v4 rfl rfl) h4
  clear hA0 hV0 hval0
  have hlt1 : ∀ x ∈ p1, x.block < W.heap.size := fun x hx => hW'.lt x (by simp [hx])
  have h1k := h1
  obtain ⟨fuel1, hf1⟩ := h1
  have hL' : laidMet Tryz.prog plainLaid W ∧ handlesMet Tryz.prog [("errors.errorType", (Rows.laid_errors_errorType : DataW Unit))] W := hL
  have hE := handle_of_laid hL'.2
  have hS := strG_of_laid hL'.1
  have hY := sys_of_laid hL'.1
  have hFi := fine_of_laid hL'.1
  have hmax : ∃ m, W.cell? ⟨1, 0, none⟩ = some (.int .i64 m) := Tryz.laysM145.s1_3 W hsh
  obtain ⟨uid, day, flags, text, fv, hc1, hfl, hft, htx⟩ := letter_of hf1 hlt1
  have hcc : c1 = #[.int .i64 uid, fv, .int .i64 day, .string ⟨text.toArray⟩] := by
    have h : c1.toList = _ := hc1
    exact Array.ext' h
  subst hcc
  refine (finds_any s.data.toList fv flags uid day text n2 n3 n4 W (by rw [← Lib.size_eq]; unfold maxLen at ws; omega) hfl hft htx ⟨hY, hS, hmax, hE⟩ hFi).mono ?_
  rintro e W' ⟨rfl, bel⟩
  refine ⟨_, rfl, _, _, _, [], [] ++ (p1 ++ []), [], hW', ?_, ?_, ?_, bel.frame _, fun h => by cases h⟩
  · exact trodAll_mk1 (shut_bool Tryz.underlying4 _)
  · exact trodAll_mk5 (shut_string Tryz.underlying9 ws) (Below.trod laidOut (by kernel_rfl) (of_decide_eq_true (by kernel_rfl)) h1k bel hlt1) (shut_int Tryz.underlying3 w2) (shut_int Tryz.underlying3 w3) (shut_int Tryz.underlying3 w4)
  · rfl
theorem said : Rows.SearchFindsSaid :=
  OpenClaim.holds_of_cond 3 Tryz.f3 rfl rfl rfl rfl rfl rfl rfl ⟨rfl, rfl, rfl, rfl, rfl⟩ rfl rfl rfl rfl rfl (by kernel_rfl) Tryz.func3 (by kernel_rfl)
    (of_decide_eq_true (by kernel_rfl)) (by unfold Func.isWrapper; rw [if_neg (of_decide_eq_false (by kernel_rfl))]; exact ⟨rfl, rfl⟩)
    (fun os started H enc _ F0 => by rw [OpenClaim.pre_eq_preRow]; exact lifted os started H enc F0)
theorem card_holds : Rows.SearchFindsCardSaid :=
  Claim7.holds_tied_plain_at .later [] _ true _ true
    said (fun _ h => by cases h) (by kernel_rfl) (fun _ h => by cases h) searchFinds_row_tie rfl ⟨rfl, rfl⟩ (by kernel_rfl) rfl
    (fun f fn hf hfn => by
      obtain rfl : f = 3 := Option.some.inj ((show Tryz.prog.funcNamed Rows.searchFindsRow.func = some 3 by kernel_rfl).symm.trans hf) |>.symm
      obtain rfl : fn = Tryz.f3 := (Option.some.inj (Tryz.func3.symm.trans hfn)).symm
      exact ⟨by kernel_rfl, fun j t ht => by
        rw [Tryz.params3] at ht
        have hm : t ∈ [9, 24, 3, 3, 3] := by simpa using Array.mem_of_getElem? ht
        have hall : ([9, 24, 3, 3, 3].all fun u => !Tryz.prog.wantsStandIn u) = true := by kernel_rfl
        exact (show Tryz.prog.wantsStandIn t = false by simpa using List.all_eq_true.1 hall t hm)⟩)
    (by kernel_rfl)
#print axioms card_holds
end Go.Proofs.YtcahhnjponeeeaaGreatDoor.searchFinds
