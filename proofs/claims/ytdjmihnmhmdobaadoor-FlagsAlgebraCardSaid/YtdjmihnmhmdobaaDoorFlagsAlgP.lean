/- The statement FlagsAlgebraCardSaid: letterboxkeep.FlagsAlgebra returns true of any two rows of strings and any int. Conditions: none beyond the card's own: what the card ties, which the proof does not lean on, and flags.system as it is laid, which it reads. -/
import Derived.Test.YtdjmihnmhmdobaaDoorRows
import Derived.Test.YtdjmihnmhmdobaaDoorCards
import Derived.Test.YtdjmihnmhmdobaaDoorTie
import Derived.Test.YtdjmihnmhmdobaaDoorFlagsAlgV
import Derived.Lib.LaidIn
import Derived.Lib.LaidTab
import Derived.Lib.LaidU8T
import Derived.Lib.ValidU
import Derived.Deep.DeepHandedRow
import Derived.Deep.DeepWitnessRowRef
import Derived.ProofKit
import Derived.SizedLaws
import Derived.ShutString
import Derived.SliceStrings
import Derived.Carry
import Derived.SevenTiedAt
namespace Go.Proofs.YtdjmihnmhmdobaaDoor.flagsAlgebra
open Go.Shelf
open Go.ChangeShapes Go.WideShapes Go.ChangeAt Go.RowKit Go.Lib
open Go.ChangeMaps (open_string shut_string)

theorem alg_any (a b : List (List UInt8)) (av bv : Value) (z : Int) (w : World) (ha : SRow w av a) (hb : SRow w bv b) (hat : ∀ t ∈ a, t.length ≤ 9223372036854775807) (hbt : ∀ t ∈ b, t.length ≤ 9223372036854775807) (hG : FlagG w) (hlo : -9223372036854775808 ≤ z) (hhi : z ≤ 9223372036854775807) :
    Calls Tryd.prog 3 #[av, bv, .int .i64 z] w fun e w' => e = .returned (.bool true) ∧ Below w.heap.size w w' := by
  cases hA : textsF a with
  | false => exact alg_long a b av bv z w ha hb hat hbt (Or.inl hA)
  | true =>
    cases hB : textsF b with
    | false => exact alg_long a b av bv z w ha hb hat hbt (Or.inr hB)
    | true =>
      cases hsa : setF a with
      | inl n => exact alg_bad a b av bv z w ha hb hA hB hG (Or.inl ⟨n, hsa⟩)
      | inr x =>
        cases hsb : setF b with
        | inl n => exact alg_bad a b av bv z w ha hb hA hB hG (Or.inr ⟨n, hsb⟩)
        | inr y => exact alg_ok a b x y av bv z w ha hb hA hB hG hsa hsb hlo hhi

theorem laidOut : laidOutB Tryd.prog = true := by kernel_rfl
theorem cellsS : Tryd.prog.cellsOf 9 = 1 := by kernel_rfl
theorem own : ownKnob Tryd.prog.godebug = none := by kernel_rfl
/-- an array of texts that reads as a list of texts -/
theorem cells_of_strs {H : Type} {enc : TypeId × Value → H} {P : Program} {w : World} {base : Nat} {sp : Nat → Bool} {held : Bool} {fuel : Nat} {t e : TypeId} {n : Nat} {cs : List Value} {zs : List (List UInt8)} {p : List MemPlace}
    (ht : P.underlying t = some (.array n e)) (he : P.underlying e = some .string) (hce : P.cellsOf e = 1) (hct : P.cellsOf t = n)
    (h : DataW.trod enc P w base sp held fuel t cs = some (.agg (zs.map fun z => .lit (.string z)), p)) : cs = zs.map fun z => Value.string ⟨z.toArray⟩ := by
  cases fuel with
  | zero => simp [DataW.trod] at h
  | succ fuel =>
    simp only [DataW.trod, ht, hce, hct, Nat.mul_one] at h
    split at h
    · rename_i hl
      obtain ⟨xs, hm, hx⟩ := Option.map_eq_some_iff.1 h
      have hxs : xs.map (·.1) = zs.map fun z => (DataW.lit (.string z) : DataW H) := by
        have := congrArg Prod.fst hx
        simpa using this
      have hxl : xs.length = n := by simpa using mapM_length hm
      have hzl : zs.length = n := by
        have := congrArg List.length hxs
        simp at this
        omega
      apply List.ext_getElem?
      intro i
      by_cases hi : i < n
      · obtain ⟨b, hb, hf⟩ := mapM_at hm i i (by simp [hi])
        obtain ⟨z, hc, rfl, _⟩ := DataW.trod_string he hf
        have h1 : cs[i]? = some (.string z) := by
          have := congrArg (·[0]?) hc
          simpa [List.getElem?_take, List.getElem?_drop] using this
        have h2 : (xs.map (·.1))[i]? = some (DataW.lit (.string z.data.toList) : DataW H) := by simp [hb]
        rw [hxs] at h2
        simp only [List.getElem?_map, Option.map_eq_some_iff, DataW.lit.injEq, Lit.string.injEq] at h2
        obtain ⟨z', hz', rfl⟩ := h2
        simp [h1, hz']
      · rw [List.getElem?_eq_none (by omega), List.getElem?_eq_none (by simp; omega)]
    · cases h
theorem sys_data : (Rows.laid_letterbox_flags_system : DataW Unit) = .agg (sysL.map fun z => .lit (.string z)) := by kernel_rfl
theorem sys_named : Tryd.prog.globalNamed "letterbox/flags.system" = some 0 := by kernel_rfl
theorem sys_type : (Tryd.prog.globals[0]?).map (·.type) = some 47 := by kernel_rfl
theorem sys_cells : Tryd.prog.cellsOf 47 = 5 := by kernel_rfl
/-- what the row's condition gives a walk: flags.system's block -/
theorem sys_of_laid {W : World} (h : laidMet Tryd.prog Rows.flagsAlgebraRow.laid W) : FlagG W := by
  obtain ⟨ps, hv, _, hrow⟩ := h
  obtain ⟨_, _, _, _, _, q0, _, _, _, _, hv, rfl⟩ := hv
  obtain ⟨g', t', cs, fuel, p, q, hg', ht', hvar, hd, _, rfl⟩ := hv
  obtain rfl := Option.some.inj (sys_named.symm.trans hg')
  obtain rfl := Option.some.inj (sys_type.symm.trans ht')
  rw [sys_data] at hd
  have hcs := cells_of_strs Tryd.underlying47 Tryd.underlying9 cellsS sys_cells hd
  have hsz : cs.size = 5 := by
    have := congrArg List.length hcs
    simpa [sysL] using this
  obtain ⟨⟨c, t, hb⟩, _⟩ := hrow 0 0 (List.mem_append_right _ (List.mem_append_left _ (List.mem_append_left _ (MemPlace.mem_row.2 ⟨0, by omega, rfl⟩))))
  refine ⟨t, ?_⟩
  have e : c = cs := by
    unfold World.var? at hvar
    rw [sys_named, Option.bind_some, hb] at hvar
    exact Option.some.inj hvar
  subst e
  rw [hb, ← hcs]

/-- the witness's world: the two tables and flags.system lie as their initialisers lay them -/
noncomputable def laidWorld (os : Os) : World :=
  let w0 := World.holding Tryd.prog os ⟨#[], #[], []⟩
  let put (h : Array Obj) (g : Nat) (cs : Array Value) : Array Obj := h.modify g fun
    | .cells _ t frozen => .cells cs t frozen
    | o => o
  let h1 := put w0.heap 2 (Lib.firstTab.map fun z => Value.int .u8 z).toArray
  let h2 := put h1 3 ((List.range 16).flatMap fun i => [Value.int .u8 (Lib.accLo i), Value.int .u8 (Lib.accHi i)]).toArray
  let h3 := put h2 0 ((sysL.map fun t => Value.string ⟨t.toArray⟩).toArray)
  { w0 with heap := h3 }
theorem laid_met (os : Os) (args : Array Value) : laidMet Tryd.prog Rows.flagsAlgebraRow.laid ((laidWorld os).forCall (fun _ _ => 0) ⟨#[], args, []⟩).memory :=
  (LaidIn.of_run (l := Rows.flagsAlgebraRow.laid) [3, 0, 2] 8 (by kernel_rfl) (by kernel_rfl) (by kernel_rfl) (by kernel_rfl)).met

theorem witness_row (os : Os) {H : Type} (enc : TypeId × Value → H) :
    (OpenSpec.ofChange Rows.flagsAlgebraSpec).preRow enc Tryd.prog Tryd.f3 Rows.flagsAlgebraRow.domain false Rows.flagsAlgebraRow.laid ((laidWorld os).forCall (fun _ _ => 0) ⟨#[], #[.slice none 0 0, .slice none 0 0, .int .i64 0], []⟩).memory #[.slice none 0 0, .slice none 0 0, .int .i64 0] := by
  have hw : (DataW.whole enc Tryd.prog ((laidWorld os).forCall (fun _ _ => 0) ⟨#[], #[.slice none 0 0, .slice none 0 0, .int .i64 0], []⟩).memory Tryd.f3.params.toList (OpenSpec.ofChange Rows.flagsAlgebraSpec).vars false #[Value.slice none 0 0, Value.slice none 0 0, Value.int .i64 0].toList 8).map (fun x => (x.1, x.2.1)) =
      some ([.nil, .nil, .lit (.int .i64 0)], []) := by kernel_rfl
  obtain ⟨⟨x1, x2, x3⟩, hx, hx1⟩ := Option.map_eq_some_iff.1 hw
  simp only [Prod.mk.injEq] at hx1
  obtain ⟨rfl, rfl⟩ := hx1
  exact OpenSpec.preRow_of_cond 8 hx (by kernel_rfl) (fun k hk => by cases hk) (by kernel_rfl) (laid_met os _)

/-- a row of strings that is handed over, as the walks read it -/
theorem row_of {H : Type} {enc : TypeId × Value → H} {W : World} {a0 : Option Addr} {len cap : Nat} {d : DataW H} {p : List MemPlace} {fuel : Nat}
    (hf : DataW.trod enc Tryd.prog W 0 (fun _ => true) true fuel 22 (Value.slice a0 len cap).cells.toList = some (d, p)) (hlt : ∀ x ∈ p, x.block < W.heap.size) :
    ∃ l : List (List UInt8), SRow W (.slice a0 len cap) l ∧ ∀ t ∈ l, t.length ≤ 9223372036854775807 := by
  rcases open_strings Tryd.underlying22 Tryd.underlying9 cellsS hf with ⟨hcs, hx⟩ | ⟨a, len', cap', ss, hcs, _, hl, hm, hz, hx, hcell, hws⟩
  · simp [Value.cells] at hcs
    obtain ⟨rfl, rfl, rfl⟩ := hcs
    exact ⟨[], ⟨none, 0, rfl, Nat.le_refl _, ⟨by decide, fun _ => rfl⟩, fun j n hj => by simp at hj⟩, fun t ht => by cases ht⟩
  · simp [Value.cells] at hcs
    obtain ⟨rfl, rfl, rfl⟩ := hcs
    simp only [Prod.mk.injEq] at hx
    obtain ⟨rfl, rfl⟩ := hx
    simp only [if_true] at hz
    unfold maxLen at hm
    have hlen : ((ss.take len).map (·.data.toList)).length = len := by simp; omega
    refine ⟨(ss.take len).map (·.data.toList), ⟨some a, cap, by rw [hlen], by rw [hlen]; exact hl, ⟨by omega, fun h => by cases h⟩, fun j n hj => ?_⟩, fun t ht => ?_⟩
    · rw [List.getElem?_map] at hj
      obtain ⟨y, hy, rfl⟩ := Option.map_eq_some_iff.1 hj
      have hjl : j < len := by
        have := (List.getElem?_eq_some_iff.1 hy).1
        rw [List.length_take] at this; omega
      rw [List.getElem?_take, if_pos hjl] at hy
      obtain ⟨b, off, spot⟩ := a
      have hc := hcell j (by omega)
      have hspot : spot = none := by simpa [Addr.add] using World.cell?_spot (hcell 0 (by omega))
      subst hspot
      have hbW : b < W.heap.size := hlt (.cell b (off + j)) (MemPlace.mem_row.2 ⟨j, by omega, by simp⟩)
      refine ⟨b, off, rfl, hbW, ?_⟩
      rw [← add_pl, hc]
      have e : ss.getD j ByteArray.empty = y := by rw [List.getD, hy]; rfl
      rw [e]
    · obtain ⟨y, hy, rfl⟩ := List.mem_map.1 ht
      have := hws y (List.mem_of_mem_take hy)
      unfold maxLen at this
      have e := Lib.size_eq y
      omega

set_option maxRecDepth 100000 in
set_option maxHeartbeats 2000000 in
theorem lifted (os : Os) (started : os.Started) (H : Type) (enc : TypeId × Value → H) (F : Stop.Interp) :
    ReturnsInHanded {} Tryd.checked os 3 .any ((OpenSpec.ofChange Rows.flagsAlgebraSpec).preRow enc Tryd.prog Tryd.f3 Rows.flagsAlgebraRow.domain false Rows.flagsAlgebraRow.laid) (((OpenSpec.ofChange Rows.flagsAlgebraSpec).at F).post enc Tryd.prog Tryd.f3 false true false false) := by
  refine returnsInHanded_of_row (C := Tryd.checked) (s := OpenSpec.ofChange Rows.flagsAlgebraSpec) own started (by kernel_rfl) Tryd.func3
    (witness_row_atRef (enc := enc) (C := Tryd.checked) false (laidWorld os) #[.slice none 0 0, .slice none 0 0, .int .i64 0] rfl (by kernel_rfl) (by kernel_rfl) (by kernel_rfl) (witness_row os enc)) ?_
  intro W base args ds gs before hval0 hW _ _ _ hL hsh _
  have hval : ∀ (j : Nat) t v, Tryd.f3.params[j]? = some t → args[j]? = some v → Value.okWide Tryd.prog W .any base t v := hval0
  have hW' := hW
  obtain ⟨p, q, hA0, hV0, rfl, _, _⟩ := hW
  have hA : DataW.TrodAll enc Tryd.prog W 0 (fun _ => true) true Tryd.f3.params.toList args.toList ds p := hA0
  rw [Tryd.params3] at hA hval
  obtain ⟨v0, v1, v2, d0, d1, d2, p0, p1, p2, rfl, rfl, rfl, h0, h1, h2⟩ := trodAll_three hA
  obtain ⟨rfl, rfl⟩ := trodVars_none hV0
  obtain ⟨a0, len0, cap0, rfl⟩ := okWide_slice Tryd.underlying22 (hval 0 22 v0 rfl rfl)
  obtain ⟨a1, len1, cap1, rfl⟩ := okWide_slice Tryd.underlying22 (hval 1 22 v1 rfl rfl)
  obtain ⟨z, rfl, rfl, rfl, wz⟩ := open_int Tryd.underlying3 (hval 2 3 v2 rfl rfl) h2
  have bz : IntKind.i64.min ≤ z ∧ z ≤ 9223372036854775807 := by simpa [Lit.wf] using wz
  have bz0 : -9223372036854775808 ≤ z := bz.1
  clear hA0 hV0 hval0
  have hlt0 : ∀ x ∈ p0, x.block < W.heap.size := fun x hx => hW'.lt x (by simp [hx])
  have hlt1 : ∀ x ∈ p1, x.block < W.heap.size := fun x hx => hW'.lt x (by simp [hx])
  have h0k := h0
  have h1k := h1
  obtain ⟨fuel0, hf0⟩ := h0
  obtain ⟨fuel1, hf1⟩ := h1
  have hG := sys_of_laid hL
  obtain ⟨a, ha, hat⟩ := row_of hf0 hlt0
  obtain ⟨b, hb, hbt⟩ := row_of hf1 hlt1
  refine (alg_any a b _ _ z W ha hb hat hbt hG bz0 bz.2).mono ?_
  rintro e W' ⟨rfl, bel⟩
  refine ⟨_, rfl, _, _, _, [], p0 ++ (p1 ++ ([] ++ [])), [], hW', ?_, ?_, ?_, bel.frame _, fun h => by cases h⟩
  · exact trodAll_mk1 (shut_bool Tryd.underlying4 _)
  · exact trodAll_mk3 (Below.trod laidOut (by kernel_rfl) (of_decide_eq_true (by kernel_rfl)) h0k bel hlt0) (Below.trod laidOut (by kernel_rfl) (of_decide_eq_true (by kernel_rfl)) h1k bel hlt1) (shut_int Tryd.underlying3 wz)
  · rfl

theorem said : Rows.FlagsAlgebraSaid :=
  OpenClaim.holds_of_cond 3 Tryd.f3 rfl rfl rfl rfl rfl rfl rfl ⟨rfl, rfl, rfl, rfl, rfl⟩ rfl rfl rfl rfl rfl (by kernel_rfl) Tryd.func3 (by kernel_rfl)
    (of_decide_eq_true (by kernel_rfl)) (by unfold Func.isWrapper; rw [if_neg (of_decide_eq_false (by kernel_rfl))]; exact ⟨rfl, rfl⟩)
    (fun os started H enc _ F0 => by rw [OpenClaim.pre_eq_preRow]; exact lifted os started H enc F0)

theorem card_holds : Rows.FlagsAlgebraCardSaid :=
  Claim7.holds_tied_plain_at .later [] _ true _ false
    said (fun _ h => by cases h) (by kernel_rfl) (fun _ h => by cases h) flagsAlgebra_row_tie rfl ⟨rfl, rfl⟩ (by kernel_rfl) rfl
    (fun f fn hf hfn => by
      obtain rfl : f = 3 := Option.some.inj ((show Tryd.prog.funcNamed Rows.flagsAlgebraRow.func = some 3 by kernel_rfl).symm.trans hf) |>.symm
      obtain rfl : fn = Tryd.f3 := (Option.some.inj (Tryd.func3.symm.trans hfn)).symm
      exact ⟨by kernel_rfl, fun j t ht => by
        rw [Tryd.params3] at ht
        have hm : t ∈ [22, 22, 3] := by simpa using Array.mem_of_getElem? ht
        have hall : ([22, 22, 3].all fun u => !Tryd.prog.wantsStandIn u) = true := by kernel_rfl
        exact (show Tryd.prog.wantsStandIn t = false by simpa using List.all_eq_true.1 hall t hm)⟩)
    (by kernel_rfl)
#print axioms card_holds
end Go.Proofs.YtdjmihnmhmdobaaDoor.flagsAlgebra
