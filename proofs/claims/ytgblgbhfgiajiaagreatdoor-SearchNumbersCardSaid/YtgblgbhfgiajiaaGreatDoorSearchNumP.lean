/- The statement SearchNumbersCardSaid: letterboxkeep.SearchNumbers returns true of any row of ranges, any letter and any four numbers. Conditions: none beyond the card's own: strconv's table of powers and its two errors, errors.errorType and flags.system lie as the program's text lays them, which the card ties; bytealg.MaxLen lies, as in every world that the program shapes. -/
import Derived.Test.YtgblgbhfgiajiaaGreatDoorSrchNV
import Derived.Test.YtgblgbhfgiajiaaGreatDoorSrchCd
import Derived.Stop.LaidErr
import Derived.Test.YtgblgbhfgiajiaaGreatDoorRows
import Derived.Test.YtgblgbhfgiajiaaGreatDoorCards
import Derived.Test.YtgblgbhfgiajiaaGreatDoorTie
import Derived.Lib.LaidIn
import Derived.Lib.LaidTab
import Derived.Lib.LaidU8T
import Derived.PinnedBridge
import Derived.Stop.LaidErr
import Derived.ChangeShapes
import Derived.Deep.Slices
import Derived.Deep.Fields
import Derived.ChangeSlices
import Derived.SliceStrings
import Derived.Deep.DeepHandedRow
import Derived.Deep.DeepWitnessRowRef
import Derived.ProofKit
import Derived.SizedLaws
import Derived.ShutString
import Derived.Carry
import Derived.SevenTiedAt
import Derived.LaidHandle
namespace Go.Proofs.YtgblgbhfgiajiaaGreatDoor.searchNumbers
open Go.Shelf
open Go.ChangeShapes Go.WideShapes Go.ChangeAt Go.RowKit Go.Lib
open Go.ChangeMaps (open_string shut_string)
open Go.Proofs.YtgblgbhfgiajiaaGreatDoor.srch

theorem cellsR : Tryz.prog.cellsOf 51 = 2 := by kernel_rfl
def in64 (n : Int) : Prop := -9223372036854775808 ≤ n ∧ n ≤ 9223372036854775807
set_option maxRecDepth 100000 in
set_option maxHeartbeats 2000000 in
/-- a range that is handed over -/
theorem rg_of {H : Type} {enc : TypeId × Value → H} {W : World} {n : Nat} {cs : List Value} {x : DataW H × List MemPlace}
    (hf : DataW.trod enc Tryz.prog W 0 (fun _ => true) true n 51 cs = some x) : ∃ r : Rg, cs = [.int .i64 r.1, .int .i64 r.2] ∧ in64 r.1 ∧ in64 r.2 := by
  obtain ⟨ys, m, rfl, hlen, hyl, hg⟩ := struct_ones Tryz.underlying51 (by kernel_rfl) (by kernel_rfl) hf
  match cs, (show cs.length = 2 from hlen) with
  | [c0, c1], _ =>
    match ys, (show ys.length = 2 from hyl) with
    | [y0, y1], _ =>
      have g0 : DataW.trod enc Tryz.prog W 0 (fun _ => true) true m 3 [c0] = some y0 := hg 0 _ rfl c0 rfl
      have g1 : DataW.trod enc Tryz.prog W 0 (fun _ => true) true m 3 [c1] = some y1 := hg 1 _ rfl c1 rfl
      obtain ⟨n0, e0, _, w0⟩ := DataW.trod_int Tryz.underlying3 g0
      obtain ⟨n1, e1, _, w1⟩ := DataW.trod_int Tryz.underlying3 g1
      simp only [List.cons.injEq, and_true] at e0 e1
      subst e0 e1
      have b0 : IntKind.i64.min ≤ n0 ∧ n0 ≤ 9223372036854775807 := by simpa [Lit.wf] using w0
      have b1 : IntKind.i64.min ≤ n1 ∧ n1 ≤ 9223372036854775807 := by simpa [Lit.wf] using w1
      exact ⟨(n0, n1), rfl, ⟨b0.1, b0.2⟩, b1.1, b1.2⟩
set_option maxRecDepth 100000 in
set_option maxHeartbeats 2000000 in
/-- a row of ranges that is handed over, as the walks read it -/
theorem rgs_of {H : Type} {enc : TypeId × Value → H} {W : World} {a0 : Option Addr} {len cap : Nat} {d : DataW H} {p : List MemPlace} {fuel : Nat}
    (hf : DataW.trod enc Tryz.prog W 0 (fun _ => true) true fuel 22 (Value.slice a0 len cap).cells.toList = some (d, p)) (hlt : ∀ x ∈ p, x.block < W.heap.size) :
    ∃ l : List Rg, RgRow W (.slice a0 len cap) l ∧ ∀ r ∈ l, in64 r.1 ∧ in64 r.2 := by
  rcases Go.Deep.open_slice Tryz.underlying22 hf with ⟨hcs, hx⟩ | ⟨a, len', cap', m, n, D, Pl, hcs, _, hl, hm, hmm, hx, hi⟩
  · simp [Value.cells] at hcs
    obtain ⟨rfl, rfl, rfl⟩ := hcs
    exact ⟨[], RgRow.nil W, fun t ht => (by cases ht)⟩
  · simp [Value.cells] at hcs
    obtain ⟨rfl, rfl, rfl⟩ := hcs
    simp only [if_true] at hmm
    obtain rfl := hmm.symm
    simp only [Prod.mk.injEq] at hx
    obtain ⟨_, rfl⟩ := hx
    rw [cellsR] at hi hlt
    have hk : ∀ j : Fin len, ∃ x : Rg, (in64 x.1 ∧ in64 x.2) ∧ ∀ (i : Nat) (u : Value), ([.int .i64 x.1, .int .i64 x.2] : List Value)[i]? = some u → W.cell? ((a.add (j.1 * 2)).add i) = some u := fun j => by
      have hjm : j.1 < cap := Nat.lt_of_lt_of_le j.2 hl
      obtain ⟨cs', hc, ht⟩ := hi j.1 hjm
      obtain ⟨_, hcl, hat⟩ := World.cells?_some hc
      obtain ⟨x, rfl, h1, h2⟩ := rg_of ht
      refine ⟨x, ⟨h1, h2⟩, fun i u hu => ?_⟩
      have hi2 : i < 2 := by
        have := (List.getElem?_eq_some_iff.1 hu).1
        simpa using this
      rw [hat i hi2]
      exact hu
    obtain ⟨f, hf2⟩ := Classical.axiomOfChoice hk
    have hlen : (List.ofFn f).length = len := by simp
    have hget : ∀ (j : Nat) (x : Rg), (List.ofFn f)[j]? = some x → ∃ h : j < len, x = f ⟨j, h⟩ := fun j x hj => by
      have h : j < len := by rw [← hlen]; exact (List.getElem?_eq_some_iff.1 hj).1
      refine ⟨h, ?_⟩
      simp [h] at hj
      exact hj.symm
    refine ⟨List.ofFn f, ⟨some a, cap, by rw [hlen], by rw [hlen]; exact hl, ⟨by unfold maxLen at hm; omega, fun h => by cases h⟩, fun j x hj => ?_⟩, fun x hx => ?_⟩
    · obtain ⟨hjl, rfl⟩ := hget j x hj
      obtain ⟨_, hc⟩ := hf2 ⟨j, hjl⟩
      obtain ⟨b, off, spot⟩ := a
      have hspot : spot = none := by
        obtain ⟨_, hc0⟩ := hf2 ⟨0, by omega⟩
        simpa [Addr.add] using World.cell?_spot (hc0 0 _ rfl)
      subst hspot
      have hbW : b < W.heap.size := hlt (.cell b (off + j * 2)) (List.mem_append_left _ (MemPlace.mem_row.2 ⟨j * 2, by omega, by simp⟩))
      have hc' : ∀ (i : Nat) (u : Value), ([.int .i64 (f ⟨j, hjl⟩).1, .int .i64 (f ⟨j, hjl⟩).2] : List Value)[i]? = some u → W.cell? ⟨b, off + j * 2 + i, none⟩ = some u := fun i u hu => by
        have := hc i u hu
        rwa [add_pl, add_pl] at this
      exact ⟨b, off, rfl, hbW, hc' 0 _ rfl, hc' 1 _ rfl⟩
    · obtain ⟨j, hj⟩ := List.getElem?_of_mem hx
      obtain ⟨h, rfl⟩ := hget j x hj
      exact (hf2 ⟨j, h⟩).1
theorem laid_met (os : Os) (args : Array Value) : laidMetH Tryz.prog Rows.searchNumbersRow.laid ((laidWorld os).forCall (fun _ _ => 0) ⟨#[], args, []⟩).memory :=
  laidMetH_of_parts
    (LaidIn.of_run (l := plainLaid) [6, 7, 1, 5, 9, 8, 2, 4, low, low + 1] 8 (by kernel_rfl) (by kernel_rfl) (by kernel_rfl) (by kernel_rfl)).met
    (by kernel_rfl)

theorem witness_row (os : Os) {H : Type} (enc : TypeId × Value → H) :
    (OpenSpec.ofChange Rows.searchNumbersSpec).preRow enc Tryz.prog Tryz.f3 Rows.searchNumbersRow.domain false Rows.searchNumbersRow.laid ((laidWorld os).forCall (fun _ _ => 0) ⟨#[], #[.slice none 0 0, .agg #[.int .i64 0, .slice none 0 0, .int .i64 0, .string ⟨#[]⟩], .int .i64 0, .int .i64 0, .int .i64 0, .int .i64 0], []⟩).memory #[.slice none 0 0, .agg #[.int .i64 0, .slice none 0 0, .int .i64 0, .string ⟨#[]⟩], .int .i64 0, .int .i64 0, .int .i64 0, .int .i64 0] := by
  have hw : (DataW.whole enc Tryz.prog ((laidWorld os).forCall (fun _ _ => 0) ⟨#[], #[.slice none 0 0, .agg #[.int .i64 0, .slice none 0 0, .int .i64 0, .string ⟨#[]⟩], .int .i64 0, .int .i64 0, .int .i64 0, .int .i64 0], []⟩).memory Tryz.f3.params.toList (OpenSpec.ofChange Rows.searchNumbersSpec).vars false #[Value.slice none 0 0, Value.agg #[.int .i64 0, .slice none 0 0, .int .i64 0, .string ⟨#[]⟩], Value.int .i64 0, Value.int .i64 0, Value.int .i64 0, Value.int .i64 0].toList 8).map (fun x => (x.1, x.2.1)) =
      some ([.nil, .agg [.lit (.int .i64 0), .nil, .lit (.int .i64 0), .lit (.string [])], .lit (.int .i64 0), .lit (.int .i64 0), .lit (.int .i64 0), .lit (.int .i64 0)], []) := by kernel_rfl
  obtain ⟨⟨x1, x2, x3⟩, hx, hx1⟩ := Option.map_eq_some_iff.1 hw
  simp only [Prod.mk.injEq] at hx1
  obtain ⟨rfl, rfl⟩ := hx1
  exact OpenSpec.preRow_of_cond 8 hx (by kernel_rfl) (fun k hk => by cases hk) (by kernel_rfl) (laid_met os _)

set_option maxRecDepth 100000 in
set_option maxHeartbeats 2000000 in
theorem lifted (os : Os) (started : os.Started) (H : Type) (enc : TypeId × Value → H) (F : Stop.Interp) :
    ReturnsInHanded {} Tryz.checked os 3 .any ((OpenSpec.ofChange Rows.searchNumbersSpec).preRow enc Tryz.prog Tryz.f3 Rows.searchNumbersRow.domain false Rows.searchNumbersRow.laid) (((OpenSpec.ofChange Rows.searchNumbersSpec).at F).post enc Tryz.prog Tryz.f3 false true false false) := by
  refine returnsInHanded_of_row (C := Tryz.checked) (s := OpenSpec.ofChange Rows.searchNumbersSpec) own started (by kernel_rfl) Tryz.func3
    (witness_row_atRef (enc := enc) (C := Tryz.checked) false (laidWorld os) #[.slice none 0 0, .agg #[.int .i64 0, .slice none 0 0, .int .i64 0, .string ⟨#[]⟩], .int .i64 0, .int .i64 0, .int .i64 0, .int .i64 0] rfl (by kernel_rfl) (by kernel_rfl) (by kernel_rfl) (witness_row os enc)) ?_
  intro W base args ds gs before hval0 hW _ _ _ hL hsh _
  have hval : ∀ (j : Nat) t v, Tryz.f3.params[j]? = some t → args[j]? = some v → Value.okWide Tryz.prog W .any base t v := hval0
  have hW' := hW
  obtain ⟨p, q, hA0, hV0, rfl, _, _⟩ := hW
  have hA : DataW.TrodAll enc Tryz.prog W 0 (fun _ => true) true Tryz.f3.params.toList args.toList ds p := hA0
  rw [Tryz.params3] at hA hval
  obtain ⟨v0, v1, v2, v3, v4, v5, d0, d1, d2, d3, d4, d5, p0, p1, p2, p3, p4, p5, rfl, rfl, rfl, h0, h1, h2, h3, h4, h5⟩ := trodAll_six hA
  obtain ⟨rfl, rfl⟩ := trodVars_none hV0
  obtain ⟨a0, len0, cap0, rfl⟩ := okWide_slice Tryz.underlying22 (hval 0 22 v0 rfl rfl)
  obtain ⟨c1, rfl, -⟩ := okWide_struct Tryz.underlying25 (hval 1 25 v1 rfl rfl)
  obtain ⟨n2, rfl, rfl, rfl, w2⟩ := open_int Tryz.underlying3 (hval 2 3 v2 rfl rfl) h2
  obtain ⟨n3, rfl, rfl, rfl, w3⟩ := open_int Tryz.underlying3 (hval 3 3 v3 rfl rfl) h3
  obtain ⟨n4, rfl, rfl, rfl, w4⟩ := open_int Tryz.underlying3 (hval 4 3 v4 rfl rfl) h4
  obtain ⟨n5, rfl, rfl, rfl, w5⟩ := open_int Tryz.underlying3 (hval 5 3 v5 rfl rfl) h5
  clear hA0 hV0 hval0
  have hlt0 : ∀ x ∈ p0, x.block < W.heap.size := fun x hx => hW'.lt x (by simp [hx])
  have hlt1 : ∀ x ∈ p1, x.block < W.heap.size := fun x hx => hW'.lt x (by simp [hx])
  have h0k := h0
  have h1k := h1
  obtain ⟨fuel0, hf0⟩ := h0
  obtain ⟨fuel1, hf1⟩ := h1
  have hL' : laidMet Tryz.prog plainLaid W ∧ handlesMet Tryz.prog [("errors.errorType", (Rows.laid_errors_errorType : DataW Unit))] W := hL
  have hE := handle_of_laid hL'.2
  have hS := strG_of_laid hL'.1
  have hY := sys_of_laid hL'.1
  have hmax : ∃ m, W.cell? ⟨0, 0, none⟩ = some (.int .i64 m) := Tryz.laysM145.s1_3 W hsh
  obtain ⟨l0, hl0, -⟩ := rgs_of hf0 hlt0
  obtain ⟨uid, day, flags, text, fv, hc1, hfl, hft, htx⟩ := letter_of hf1 hlt1
  have hcc : c1 = #[.int .i64 uid, fv, .int .i64 day, .string ⟨text.toArray⟩] := by
    have h : c1.toList = _ := hc1
    exact Array.ext' h
  subst hcc
  have b5 : IntKind.i64.min ≤ n5 ∧ n5 ≤ 9223372036854775807 := by simpa [Lit.wf] using w5
  refine (numbersK_any ⟨uid, flags, day, text, n2, n3, n4⟩ fv _ l0 n5 W hfl hft htx hl0 b5.1 b5.2 ⟨hY, hS, hmax, hE⟩).mono ?_
  rintro e W' ⟨rfl, bel⟩
  refine ⟨_, rfl, _, _, _, [], p0 ++ (p1 ++ []), [], hW', ?_, ?_, ?_, bel.frame _, fun h => by cases h⟩
  · exact trodAll_mk1 (shut_bool Tryz.underlying4 _)
  · exact trodAll_mk6 (Below.trod laidOut (by kernel_rfl) (of_decide_eq_true (by kernel_rfl)) h0k bel hlt0) (Below.trod laidOut (by kernel_rfl) (of_decide_eq_true (by kernel_rfl)) h1k bel hlt1) (shut_int Tryz.underlying3 w2) (shut_int Tryz.underlying3 w3) (shut_int Tryz.underlying3 w4) (shut_int Tryz.underlying3 w5)
  · rfl

theorem said : Rows.SearchNumbersSaid :=
  OpenClaim.holds_of_cond 3 Tryz.f3 rfl rfl rfl rfl rfl rfl rfl ⟨rfl, rfl, rfl, rfl, rfl⟩ rfl rfl rfl rfl rfl (by kernel_rfl) Tryz.func3 (by kernel_rfl)
    (of_decide_eq_true (by kernel_rfl)) (by unfold Func.isWrapper; rw [if_neg (of_decide_eq_false (by kernel_rfl))]; exact ⟨rfl, rfl⟩)
    (fun os started H enc _ F0 => by rw [OpenClaim.pre_eq_preRow]; exact lifted os started H enc F0)

theorem card_holds : Rows.SearchNumbersCardSaid :=
  Claim7.holds_tied_plain_at .later [] _ true _ true
    said (fun _ h => by cases h) (by kernel_rfl) (fun _ h => by cases h) searchNumbers_row_tie rfl ⟨rfl, rfl⟩ (by kernel_rfl) rfl
    (fun f fn hf hfn => by
      obtain rfl : f = 3 := Option.some.inj ((show Tryz.prog.funcNamed Rows.searchNumbersRow.func = some 3 by kernel_rfl).symm.trans hf) |>.symm
      obtain rfl : fn = Tryz.f3 := (Option.some.inj (Tryz.func3.symm.trans hfn)).symm
      exact ⟨by kernel_rfl, fun j t ht => by
        rw [Tryz.params3] at ht
        have hm : t ∈ [22, 25, 3, 3, 3, 3] := by simpa using Array.mem_of_getElem? ht
        have hall : ([22, 25, 3, 3, 3, 3].all fun u => !Tryz.prog.wantsStandIn u) = true := by kernel_rfl
        exact (show Tryz.prog.wantsStandIn t = false by simpa using List.all_eq_true.1 hall t hm)⟩)
    (by kernel_rfl)
#print axioms card_holds
end Go.Proofs.YtgblgbhfgiajiaaGreatDoor.searchNumbers
