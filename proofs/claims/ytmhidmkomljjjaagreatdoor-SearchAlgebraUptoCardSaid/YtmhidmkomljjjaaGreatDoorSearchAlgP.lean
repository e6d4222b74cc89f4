/- The statement SearchAlgebraUptoCardSaid: letterboxkeep.SearchAlgebra returns true of any two rows of words, any letter and any three numbers, of bulk at most as the statement says. Conditions: none beyond the card's own: strconv's table of powers and its two errors, errors.errorType and flags.system lie as the program's text lays them, which the card ties; bytealg.MaxLen lies, as in every world that the program shapes. -/
import Derived.Test.YtmhidmkomljjjaaGreatDoorSrchAU
import Derived.Test.YtmhidmkomljjjaaGreatDoorSrchCd
import Derived.Stop.LaidErr
import Derived.Test.YtmhidmkomljjjaaGreatDoorRows
import Derived.Test.YtmhidmkomljjjaaGreatDoorCards
import Derived.Test.YtmhidmkomljjjaaGreatDoorTie
import Derived.Lib.LaidIn
import Derived.Lib.LaidTab
import Derived.Lib.LaidU8T
import Derived.PinnedBridge
import Derived.Stop.LaidErr
import Derived.ChangeShapes
import Derived.Deep.Slices
import Derived.Deep.Fields
import Derived.ChangeSlices
import Derived.SliceStrings
import Derived.Deep.DeepHandedRow
import Derived.Deep.DeepWitnessRowRef
import Derived.ProofKit
import Derived.SizedLaws
import Derived.ShutString
import Derived.Carry
import Derived.SevenTiedAt
import Derived.LaidHandle
namespace Go.Proofs.YtmhidmkomljjjaaGreatDoor.searchAlgebra
open Go.Shelf
open Go.ChangeShapes Go.WideShapes Go.ChangeAt Go.RowKit Go.Lib
open Go.ChangeMaps (open_string shut_string)
open Go.Proofs.YtmhidmkomljjjaaGreatDoor.srch

theorem cellsA : Tryz.prog.cellsOf 41 = 3 := by kernel_rfl
/-! what a bound on the bulk gives -/
theorem part_le {H : Type} {d : DataW H} {l : List (DataW H)} (h : d ∈ l) : Rows.uptoBulk d ≤ Rows.uptoBulkAll l := by
  induction l with
  | nil => cases h
  | cons x r ih =>
    simp only [Rows.uptoBulkAll]
    cases List.mem_cons.1 h with
    | inl e => subst e; omega
    | inr e => have := ih e; omega
set_option maxRecDepth 100000 in
set_option maxHeartbeats 2000000 in
/-- a word that is handed over -/
theorem arg_of {H : Type} {enc : TypeId × Value → H} {W : World} {n : Nat} {cs : List Value} {x : DataW H × List MemPlace}
    (hf : DataW.trod enc Tryz.prog W 0 (fun _ => true) true n 41 cs = some x) :
    ∃ (k : Int) (text : List UInt8) (a0 : Option Addr) (len cap : Nat) (d : DataW H) (p : List MemPlace) (m : Nat), cs = [.int .i64 k, .string ⟨text.toArray⟩, .slice a0 len cap] ∧ DataW.trod enc Tryz.prog W 0 (fun _ => true) true m 22 (Value.slice a0 len cap).cells.toList = some (d, p) ∧ (∀ y ∈ p, y ∈ x.2) ∧ text.length + Rows.uptoBulk d < Rows.uptoBulk x.1 := by
  obtain ⟨ys, m, rfl, hlen, hyl, hg⟩ := struct_ones Tryz.underlying41 (by kernel_rfl) (by kernel_rfl) hf
  match cs, (show cs.length = 3 from hlen) with
  | [c0, c1, c2], _ =>
    match ys, (show ys.length = 3 from hyl) with
    | [y0, y1, y2], _ =>
      have g0 : DataW.trod enc Tryz.prog W 0 (fun _ => true) true m 3 [c0] = some y0 := hg 0 _ rfl c0 rfl
      have g1 : DataW.trod enc Tryz.prog W 0 (fun _ => true) true m 9 [c1] = some y1 := hg 1 _ rfl c1 rfl
      have g2 : DataW.trod enc Tryz.prog W 0 (fun _ => true) true m 22 [c2] = some y2 := hg 2 _ rfl c2 rfl
      obtain ⟨n0, e0, x0, _⟩ := DataW.trod_int Tryz.underlying3 g0
      obtain ⟨s, e1, x1, w1⟩ := DataW.trod_string Tryz.underlying9 g1
      simp only [List.cons.injEq, and_true] at e0 e1
      subst e0 e1 x0 x1
      obtain ⟨a0, len, cap, hc2⟩ : ∃ a0 len cap, c2 = .slice a0 len cap := by
        rcases Go.Deep.open_slice Tryz.underlying22 g2 with ⟨hcs, _⟩ | ⟨a, len', cap', _, _, _, _, hcs, _⟩
        · simp only [List.cons.injEq, and_true] at hcs
          exact ⟨_, _, _, hcs⟩
        · simp only [List.cons.injEq, and_true] at hcs
          exact ⟨_, _, _, hcs⟩
      subst hc2
      obtain ⟨d2, p2⟩ := y2
      refine ⟨n0, s.data.toList, a0, len, cap, d2, p2, m, ?_, g2, fun y hy => by simp [hy], ?_⟩
      · have : (⟨s.data.toList.toArray⟩ : ByteArray) = s := by apply ByteArray.ext; simp
        rw [this]
      · simp only [List.map_cons, List.map_nil, Rows.uptoBulk, Rows.uptoBulkAll]
        omega
set_option maxRecDepth 100000 in
set_option maxHeartbeats 2000000 in
/-- words that are handed over, as the walks read them -/
theorem args_of {H : Type} {enc : TypeId × Value → H} {W : World} : ∀ (N : Nat) {a0 : Option Addr} {len cap : Nat} {d : DataW H} {p : List MemPlace} {fuel : Nat}
    (_ : DataW.trod enc Tryz.prog W 0 (fun _ => true) true fuel 22 (Value.slice a0 len cap).cells.toList = some (d, p)) (_ : ∀ x ∈ p, x.block < W.heap.size) (_ : Rows.uptoBulk d ≤ N) (_ : N ≤ 2000000),
    ∃ l : List Wd, ReadsK W W.heap.size (.slice a0 len cap) l := by
  intro N
  induction N with
  | zero =>
    intro a0 len cap d p fuel hf hlt hN hN2
    rcases Go.Deep.open_slice Tryz.underlying22 hf with ⟨hcs, hx⟩ | ⟨a, len', cap', m, n, D, Pl, hcs, _, hl, hm, hmm, hx, hi⟩
    · simp only [Prod.mk.injEq] at hx
      rw [hx.1] at hN
      simp [Rows.uptoBulk] at hN
    · simp only [Prod.mk.injEq] at hx
      rw [hx.1] at hN
      simp [Rows.uptoBulk] at hN
  | succ N ih =>
    intro a0 len cap d p fuel hf hlt hN hN2
    rcases Go.Deep.open_slice Tryz.underlying22 hf with ⟨hcs, hx⟩ | ⟨a, len', cap', m, n, D, Pl, hcs, _, hl, hm, hmm, hx, hi⟩
    · simp [Value.cells] at hcs
      obtain ⟨rfl, rfl, rfl⟩ := hcs
      exact ⟨[], readsK_nil _ _⟩
    · simp [Value.cells] at hcs
      obtain ⟨rfl, rfl, rfl⟩ := hcs
      simp only [if_true] at hmm
      obtain rfl := hmm.symm
      simp only [Prod.mk.injEq] at hx
      obtain ⟨hd, rfl⟩ := hx
      rw [cellsA] at hi hlt
      have hk : ∀ j : Fin len, ∃ x : Wd × Value, (x.1.text.length ≤ 2000000 ∧ ReadsK W W.heap.size x.2 x.1.list) ∧ ∀ (i : Nat) (u : Value), ([.int .i64 x.1.kind, .string ⟨x.1.text.toArray⟩, x.2] : List Value)[i]? = some u → W.cell? ((a.add (j.1 * 3)).add i) = some u := fun j => by
        have hjm : j.1 < cap := Nat.lt_of_lt_of_le j.2 hl
        obtain ⟨cs', hc, ht⟩ := hi j.1 hjm
        obtain ⟨_, hcl, hat⟩ := World.cells?_some hc
        obtain ⟨k, text, b0, bl, bc, d2, p2, m2, rfl, g2, hp2, hb2⟩ := arg_of ht
        have hDj : Rows.uptoBulk (D j.1) < Rows.uptoBulk d := by
          rw [hd]
          have := part_le (d := D j.1) (l := (List.range len).map D) (List.mem_map.2 ⟨j.1, List.mem_range.2 j.2, rfl⟩)
          simp only [Rows.uptoBulk]
          omega
        simp only at hb2
        obtain ⟨l2, hl2⟩ := ih g2 (fun y hy => hlt y (List.mem_append_right _ (List.mem_flatMap.2 ⟨j.1, List.mem_range.2 hjm, hp2 y hy⟩))) (by omega) (by omega)
        refine ⟨(.mk k text l2, .slice b0 bl bc), ⟨by show text.length ≤ _; omega, hl2⟩, fun i u hu => ?_⟩
        have hi3 : i < 3 := by
          have := (List.getElem?_eq_some_iff.1 hu).1
          simpa using this
        rw [hat i hi3]
        exact hu
      obtain ⟨f, hf2⟩ := Classical.axiomOfChoice hk
      have hlen : (List.ofFn f).length = len := by simp
      have hget : ∀ (j : Nat) (x : Wd × Value), (List.ofFn f)[j]? = some x → ∃ h : j < len, x = f ⟨j, h⟩ := fun j x hj => by
        have h : j < len := by rw [← hlen]; exact (List.getElem?_eq_some_iff.1 hj).1
        refine ⟨h, ?_⟩
        simp [h] at hj
        exact hj.symm
      have hll : ((List.ofFn f).map (·.1)).length = len := by rw [List.length_map, hlen]
      refine ⟨(List.ofFn f).map (·.1), ?_⟩
      have key : ReadsK W W.heap.size (.slice (some a) ((List.ofFn f).map (·.1)).length cap) ((List.ofFn f).map (·.1)) := by
        refine .mk (some a) cap _ (fun j => if h : j < len then (f ⟨j, h⟩).2 else .nilIface) (by rw [hll]; exact hl) (by unfold maxLen at hm; omega) (fun j t hj => ?_) (fun j t hj => ?_) (fun j t hj => ?_)
        · rw [List.getElem?_map] at hj
          obtain ⟨x, hx, rfl⟩ := Option.map_eq_some_iff.1 hj
          obtain ⟨hjl, rfl⟩ := hget j x hx
          obtain ⟨_, hc⟩ := hf2 ⟨j, hjl⟩
          obtain ⟨b, off, spot⟩ := a
          have hspot : spot = none := by
            obtain ⟨_, hc0⟩ := hf2 ⟨0, by omega⟩
            simpa [Addr.add] using World.cell?_spot (hc0 0 _ rfl)
          subst hspot
          have hbW : b < W.heap.size := hlt (.cell b (off + j * 3)) (List.mem_append_left _ (MemPlace.mem_row.2 ⟨j * 3, by omega, by simp⟩))
          have hc' : ∀ (i : Nat) (u : Value), ([.int .i64 (f ⟨j, hjl⟩).1.kind, .string ⟨(f ⟨j, hjl⟩).1.text.toArray⟩, (f ⟨j, hjl⟩).2] : List Value)[i]? = some u → W.cell? ⟨b, off + j * 3 + i, none⟩ = some u := fun i u hu => by
            have := hc i u hu
            rwa [add_pl, add_pl] at this
          refine ⟨b, off, rfl, hbW, hc' 0 _ rfl, hc' 1 _ rfl, ?_⟩
          simp only [hjl, dif_pos]
          exact hc' 2 _ rfl
        · rw [List.getElem?_map] at hj
          obtain ⟨x, hx, rfl⟩ := Option.map_eq_some_iff.1 hj
          obtain ⟨hjl, rfl⟩ := hget j x hx
          exact (hf2 ⟨j, hjl⟩).1.1
        · rw [List.getElem?_map] at hj
          obtain ⟨x, hx, rfl⟩ := Option.map_eq_some_iff.1 hj
          obtain ⟨hjl, rfl⟩ := hget j x hx
          simp only [hjl, dif_pos]
          exact (hf2 ⟨j, hjl⟩).1.2
      rw [hll] at key
      exact key
theorem laid_met (os : Os) (args : Array Value) : laidMetH Tryz.prog Rows.searchAlgebraUptoRow.laid ((laidWorld os).forCall (fun _ _ => 0) ⟨#[], args, []⟩).memory :=
  laidMetH_of_parts
    (LaidIn.of_run (l := plainLaid) [8, 9, 7, 4, 6, 5, 1, 3, low, low + 1] 8 (by kernel_rfl) (by kernel_rfl) (by kernel_rfl) (by kernel_rfl)).met
    (by kernel_rfl)

theorem witness_row (os : Os) {H : Type} (enc : TypeId × Value → H) :
    (Rows.OpenSpec.upto Rows.searchAlgebraSpec).preRow enc Tryz.prog Tryz.f3 Rows.searchAlgebraUptoRow.domain false Rows.searchAlgebraUptoRow.laid ((laidWorld os).forCall (fun _ _ => 0) ⟨#[], #[.slice none 0 0, .slice none 0 0, .agg #[.int .i64 0, .slice none 0 0, .int .i64 0, .string ⟨#[]⟩], .int .i64 0, .int .i64 0, .int .i64 0], []⟩).memory #[.slice none 0 0, .slice none 0 0, .agg #[.int .i64 0, .slice none 0 0, .int .i64 0, .string ⟨#[]⟩], .int .i64 0, .int .i64 0, .int .i64 0] := by
  have hw : (DataW.whole enc Tryz.prog ((laidWorld os).forCall (fun _ _ => 0) ⟨#[], #[.slice none 0 0, .slice none 0 0, .agg #[.int .i64 0, .slice none 0 0, .int .i64 0, .string ⟨#[]⟩], .int .i64 0, .int .i64 0, .int .i64 0], []⟩).memory Tryz.f3.params.toList (Rows.OpenSpec.upto Rows.searchAlgebraSpec).vars false #[Value.slice none 0 0, Value.slice none 0 0, Value.agg #[.int .i64 0, .slice none 0 0, .int .i64 0, .string ⟨#[]⟩], Value.int .i64 0, Value.int .i64 0, Value.int .i64 0].toList 8).map (fun x => (x.1, x.2.1)) =
      some ([.nil, .nil, .agg [.lit (.int .i64 0), .nil, .lit (.int .i64 0), .lit (.string [])], .lit (.int .i64 0), .lit (.int .i64 0), .lit (.int .i64 0)], []) := by kernel_rfl
  obtain ⟨⟨x1, x2, x3⟩, hx, hx1⟩ := Option.map_eq_some_iff.1 hw
  simp only [Prod.mk.injEq] at hx1
  obtain ⟨rfl, rfl⟩ := hx1
  exact OpenSpec.preRow_of_cond 8 hx (by kernel_rfl) (fun k hk => by cases hk; kernel_rfl) (by kernel_rfl) (laid_met os _)

set_option maxRecDepth 100000 in
set_option maxHeartbeats 2000000 in
theorem lifted (os : Os) (started : os.Started) (H : Type) (enc : TypeId × Value → H) (F : Stop.Interp) :
    ReturnsInHanded {} Tryz.checked os 3 .any ((Rows.OpenSpec.upto Rows.searchAlgebraSpec).preRow enc Tryz.prog Tryz.f3 Rows.searchAlgebraUptoRow.domain false Rows.searchAlgebraUptoRow.laid) (((Rows.OpenSpec.upto Rows.searchAlgebraSpec).at F).post enc Tryz.prog Tryz.f3 false true false false) := by
  refine returnsInHanded_of_row (C := Tryz.checked) (s := Rows.OpenSpec.upto Rows.searchAlgebraSpec) own started (by kernel_rfl) Tryz.func3
    (witness_row_atRef (enc := enc) (C := Tryz.checked) false (laidWorld os) #[.slice none 0 0, .slice none 0 0, .agg #[.int .i64 0, .slice none 0 0, .int .i64 0, .string ⟨#[]⟩], .int .i64 0, .int .i64 0, .int .i64 0] rfl (by kernel_rfl) (by kernel_rfl) (by kernel_rfl) (witness_row os enc)) ?_
  intro W base args ds gs before hval0 hW _ hcond _ hL hsh _
  have hkb := hcond _ rfl
  have hval : ∀ (j : Nat) t v, Tryz.f3.params[j]? = some t → args[j]? = some v → Value.okWide Tryz.prog W .any base t v := hval0
  have hW' := hW
  obtain ⟨p, q, hA0, hV0, rfl, _, _⟩ := hW
  have hA : DataW.TrodAll enc Tryz.prog W 0 (fun _ => true) true Tryz.f3.params.toList args.toList ds p := hA0
  rw [Tryz.params3] at hA hval
  obtain ⟨v0, v1, v2, v3, v4, v5, d0, d1, d2, d3, d4, d5, p0, p1, p2, p3, p4, p5, rfl, rfl, rfl, h0, h1, h2, h3, h4, h5⟩ := trodAll_six hA
  obtain ⟨rfl, rfl⟩ := trodVars_none hV0
  obtain ⟨a0, len0, cap0, rfl⟩ := okWide_slice Tryz.underlying22 (hval 0 22 v0 rfl rfl)
  obtain ⟨a1, len1, cap1, rfl⟩ := okWide_slice Tryz.underlying22 (hval 1 22 v1 rfl rfl)
  obtain ⟨c2, rfl, -⟩ := okWide_struct Tryz.underlying25 (hval 2 25 v2 rfl rfl)
  obtain ⟨n3, rfl, rfl, rfl, w3⟩ := open_int Tryz.underlying3 (hval 3 3 v3 rfl rfl) h3
  obtain ⟨n4, rfl, rfl, rfl, w4⟩ := open_int Tryz.underlying3 (hval 4 3 v4 rfl rfl) h4
  obtain ⟨n5, rfl, rfl, rfl, w5⟩ := open_int Tryz.underlying3 (hval 5 3 v5 rfl rfl) h5
  clear hA0 hV0 hval0
  have hlt0 : ∀ x ∈ p0, x.block < W.heap.size := fun x hx => hW'.lt x (by simp [hx])
  have hlt1 : ∀ x ∈ p1, x.block < W.heap.size := fun x hx => hW'.lt x (by simp [hx])
  have hlt2 : ∀ x ∈ p2, x.block < W.heap.size := fun x hx => hW'.lt x (by simp [hx])
  have hbulk : Rows.uptoBulk d0 ≤ 1048576 ∧ Rows.uptoBulk d1 ≤ 1048576 := by
    have h := of_decide_eq_true hkb
    simp only [List.append_nil, Rows.uptoBulkAll] at h
    omega
  have h0k := h0
  have h1k := h1
  have h2k := h2
  obtain ⟨fuel0, hf0⟩ := h0
  obtain ⟨fuel1, hf1⟩ := h1
  obtain ⟨fuel2, hf2⟩ := h2
  have hL' : laidMet Tryz.prog plainLaid W ∧ handlesMet Tryz.prog [("errors.errorType", (Rows.laid_errors_errorType : DataW Unit))] W := hL
  have hE := handle_of_laid hL'.2
  have hS := strG_of_laid hL'.1
  have hY := sys_of_laid hL'.1
  have hmax : ∃ m, W.cell? ⟨0, 0, none⟩ = some (.int .i64 m) := Tryz.laysM145.s1_3 W hsh
  obtain ⟨l0, hl0⟩ := args_of 1048576 hf0 hlt0 hbulk.1 (by decide)
  obtain ⟨l1, hl1⟩ := args_of 1048576 hf1 hlt1 hbulk.2 (by decide)
  obtain ⟨uid, day, flags, text, fv, hc2, hfl, hft, htx⟩ := letter_of hf2 hlt2
  have hcc : c2 = #[.int .i64 uid, fv, .int .i64 day, .string ⟨text.toArray⟩] := by
    have h : c2.toList = _ := hc2
    exact Array.ext' h
  subst hcc
  refine (algebra_any ⟨uid, flags, day, text, n3, n4, n5⟩ fv _ _ l0 l1 W hfl hft htx hl0 hl1 ⟨hY, hS, hmax, hE⟩).mono ?_
  rintro e W' ⟨rfl, bel⟩
  refine ⟨_, rfl, _, _, _, [], p0 ++ (p1 ++ (p2 ++ [])), [], hW', ?_, ?_, ?_, bel.frame _, fun h => by cases h⟩
  · exact trodAll_mk1 (shut_bool Tryz.underlying4 _)
  · exact trodAll_mk6 (Below.trod laidOut (by kernel_rfl) (of_decide_eq_true (by kernel_rfl)) h0k bel hlt0) (Below.trod laidOut (by kernel_rfl) (of_decide_eq_true (by kernel_rfl)) h1k bel hlt1) (Below.trod laidOut (by kernel_rfl) (of_decide_eq_true (by kernel_rfl)) h2k bel hlt2) (shut_int Tryz.underlying3 w3) (shut_int Tryz.underlying3 w4) (shut_int Tryz.underlying3 w5)
  · rfl

theorem said : Rows.SearchAlgebraUptoSaid :=
  OpenClaim.holds_of_cond 3 Tryz.f3 rfl rfl rfl rfl rfl rfl rfl ⟨rfl, rfl, rfl, rfl, rfl⟩ rfl rfl rfl rfl rfl (by kernel_rfl) Tryz.func3 (by kernel_rfl)
    (of_decide_eq_true (by kernel_rfl)) (by unfold Func.isWrapper; rw [if_neg (of_decide_eq_false (by kernel_rfl))]; exact ⟨rfl, rfl⟩)
    (fun os started H enc _ F0 => by rw [OpenClaim.pre_eq_preRow]; exact lifted os started H enc F0)

theorem card_holds : Rows.SearchAlgebraUptoCardSaid :=
  Claim7.holds_tied_plain_at .later [] _ true _ true
    said (fun _ h => by cases h) (by kernel_rfl) (fun _ h => by cases h) searchAlgebraUpto_row_tie rfl ⟨rfl, rfl⟩ (by kernel_rfl) rfl
    (fun f fn hf hfn => by
      obtain rfl : f = 3 := Option.some.inj ((show Tryz.prog.funcNamed Rows.searchAlgebraUptoRow.func = some 3 by kernel_rfl).symm.trans hf) |>.symm
      obtain rfl : fn = Tryz.f3 := (Option.some.inj (Tryz.func3.symm.trans hfn)).symm
      exact ⟨by kernel_rfl, fun j t ht => by
        rw [Tryz.params3] at ht
        have hm : t ∈ [22, 22, 25, 3, 3, 3] := by simpa using Array.mem_of_getElem? ht
        have hall : ([22, 22, 25, 3, 3, 3].all fun u => !Tryz.prog.wantsStandIn u) = true := by kernel_rfl
        exact (show Tryz.prog.wantsStandIn t = false by simpa using List.all_eq_true.1 hall t hm)⟩)
    (by kernel_rfl)
#print axioms card_holds
end Go.Proofs.YtmhidmkomljjjaaGreatDoor.searchAlgebra
