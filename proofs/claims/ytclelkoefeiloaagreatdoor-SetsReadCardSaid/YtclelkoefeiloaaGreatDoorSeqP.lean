/- What a row of ranges, and a row of numbers, that are handed over read as; five parameters. No condition beyond those each names. -/
import Derived.Test.YtclelkoefeiloaaGreatDoorSeqE
import Derived.Deep.Slices
import Derived.Deep.Fields
import Derived.Carry
import Derived.ChangeSlices
import Derived.Deep.DeepHandedRow
import Derived.ProofKit
import Derived.SizedLaws
namespace Go.Proofs.YtclelkoefeiloaaGreatDoor
open Go.Shelf
open Go.ChangeShapes Go.WideShapes Go.ChangeAt Go.RowKit Go.Lib

section
variable {H : Type} {enc : TypeId × Value → H} {P : Program} {w : World} {base : Nat} {spare : Nat → Bool} {held : Bool}
theorem trodAll_five {t t' t'' t3 t4 : TypeId} {args : Array Value} {ds : List (DataW H)} {ps : List MemPlace} (h : DataW.TrodAll enc P w base spare held [t, t', t'', t3, t4] args.toList ds ps) :
    ∃ v v' v'' v3 v4 d d' d'' d3 d4 p p' p'' p3 p4, args = #[v, v', v'', v3, v4] ∧ ds = [d, d', d'', d3, d4] ∧ ps = p ++ p' ++ p'' ++ p3 ++ p4 ∧ DataW.Trod enc P w base spare held t v d p ∧ DataW.Trod enc P w base spare held t' v' d' p' ∧ DataW.Trod enc P w base spare held t'' v'' d'' p'' ∧ DataW.Trod enc P w base spare held t3 v3 d3 p3 ∧ DataW.Trod enc P w base spare held t4 v4 d4 p4 := by
  obtain ⟨v, vs, d, ds', p, q, hargs, rfl, rfl, hd, hrest⟩ := trodAll_cons h
  obtain ⟨v', vs', d', ds'', p', q', rfl, rfl, rfl, hd', hrest'⟩ := trodAll_cons hrest
  obtain ⟨v'', vs'', d'', ds''', p'', q'', rfl, rfl, rfl, hd'', hrest''⟩ := trodAll_cons hrest'
  obtain ⟨v3, vs3, d3, ds3, p3, q3, rfl, rfl, rfl, hd3, hrest3⟩ := trodAll_cons hrest''
  obtain ⟨v4, vs4, d4, ds4, p4, q4, rfl, rfl, rfl, hd4, hrest4⟩ := trodAll_cons hrest3
  obtain ⟨rfl, rfl, rfl⟩ := trodAll_nil hrest4
  exact ⟨v, v', v'', v3, v4, d, d', d'', d3, d4, p, p', p'', p3, p4, by cases args; simp_all, rfl, by simp, hd, hd', hd'', hd3, hd4⟩
theorem trodAll_mk5 {t t' t'' t3 t4 : TypeId} {v v' v'' v3 v4 : Value} {d d' d'' d3 d4 : DataW H} {p p' p'' p3 p4 : List MemPlace} (h : DataW.Trod enc P w base spare held t v d p) (h' : DataW.Trod enc P w base spare held t' v' d' p')
    (h'' : DataW.Trod enc P w base spare held t'' v'' d'' p'') (h3 : DataW.Trod enc P w base spare held t3 v3 d3 p3) (h4 : DataW.Trod enc P w base spare held t4 v4 d4 p4) : DataW.TrodAll enc P w base spare held [t, t', t'', t3, t4] [v, v', v'', v3, v4] [d, d', d'', d3, d4] (p ++ (p' ++ (p'' ++ (p3 ++ p4)))) := ⟨p, p' ++ (p'' ++ (p3 ++ p4)), h, trodAll_mk4 h' h'' h3 h4, rfl⟩
end
/-- a struct of one-cell fields that is handed over: each field's reading -/
theorem ones_of {H : Type} {enc : TypeId × Value → H} {P : Program} {w : World} {base : Nat} {sp : Nat → Bool} {held : Bool} {t : TypeId} {fs : Array Field} {fuel : Nat} {cs : List Value} {x : DataW H × List MemPlace} (he : P.underlying t = some (.struct fs)) (hone : Go.Deep.oneCellFields P fs = true) (hC : P.cellsOf t = fs.size) (h : DataW.trod enc P w base sp held fuel t cs = some x) :
    ∃ (ys : List (DataW H × List MemPlace)) (n : Nat), x = (.agg (ys.map (·.1)), ys.flatMap (·.2)) ∧ cs.length = fs.size ∧ ys.length = fs.size ∧ ∀ (i : Nat) (f : Field), fs[i]? = some f → ∀ v, cs[i]? = some v → DataW.trod enc P w base sp held n f.type [v] = ys[i]? := by
  obtain ⟨ys, n, _, hx, hl, hy, hg⟩ := DataW.trod_struct he h
  refine ⟨ys, n, hx, hl.trans hC, hy, fun i f hf v hv => ?_⟩
  have h1 := hg i f hf
  obtain ⟨ho, hk⟩ := Go.Deep.hone_of hone i f hf
  obtain ⟨hi, e⟩ := List.getElem?_eq_some_iff.1 hv
  rw [ho, hk, List.drop_eq_getElem_cons hi, e] at h1
  exact h1
theorem cellsR : Tryz.prog.cellsOf 47 = 2 := by kernel_rfl
theorem cellsIS : Tryz.prog.cellsOf 3 = 1 := by kernel_rfl
def in64 (n : Int) : Prop := -9223372036854775808 ≤ n ∧ n ≤ 9223372036854775807
set_option maxRecDepth 100000 in
set_option maxHeartbeats 2000000 in
/-- a range that is handed over -/
theorem rg_of {H : Type} {enc : TypeId × Value → H} {W : World} {n : Nat} {cs : List Value} {x : DataW H × List MemPlace}
    (hf : DataW.trod enc Tryz.prog W 0 (fun _ => true) true n 47 cs = some x) : ∃ r : Rg, cs = [.int .i64 r.1, .int .i64 r.2] ∧ in64 r.1 ∧ in64 r.2 := by
  obtain ⟨ys, m, rfl, hlen, hyl, hg⟩ := ones_of Tryz.underlying47 (by kernel_rfl) (by kernel_rfl) hf
  match cs, (show cs.length = 2 from hlen) with
  | [c0, c1], _ =>
    match ys, (show ys.length = 2 from hyl) with
    | [y0, y1], _ =>
      have g0 : DataW.trod enc Tryz.prog W 0 (fun _ => true) true m 3 [c0] = some y0 := hg 0 _ rfl c0 rfl
      have g1 : DataW.trod enc Tryz.prog W 0 (fun _ => true) true m 3 [c1] = some y1 := hg 1 _ rfl c1 rfl
      obtain ⟨n0, e0, _, w0⟩ := DataW.trod_int Tryz.underlying3 g0
      obtain ⟨n1, e1, _, w1⟩ := DataW.trod_int Tryz.underlying3 g1
      simp only [List.cons.injEq, and_true] at e0 e1
      subst e0 e1
      have b0 : IntKind.i64.min ≤ n0 ∧ n0 ≤ 9223372036854775807 := by simpa [Lit.wf] using w0
      have b1 : IntKind.i64.min ≤ n1 ∧ n1 ≤ 9223372036854775807 := by simpa [Lit.wf] using w1
      exact ⟨(n0, n1), rfl, ⟨b0.1, b0.2⟩, b1.1, b1.2⟩
set_option maxRecDepth 100000 in
set_option maxHeartbeats 2000000 in
/-- a row of ranges that is handed over, as the walks read it -/
theorem rgs_of {H : Type} {enc : TypeId × Value → H} {W : World} {a0 : Option Addr} {len cap : Nat} {d : DataW H} {p : List MemPlace} {fuel : Nat}
    (hf : DataW.trod enc Tryz.prog W 0 (fun _ => true) true fuel 22 (Value.slice a0 len cap).cells.toList = some (d, p)) (hlt : ∀ x ∈ p, x.block < W.heap.size) :
    ∃ l : List Rg, RgRow W (.slice a0 len cap) l ∧ ∀ r ∈ l, in64 r.1 ∧ in64 r.2 := by
  rcases Go.Deep.open_slice Tryz.underlying22 hf with ⟨hcs, hx⟩ | ⟨a, len', cap', m, n, D, Pl, hcs, _, hl, hm, hmm, hx, hi⟩
  · simp [Value.cells] at hcs
    obtain ⟨rfl, rfl, rfl⟩ := hcs
    exact ⟨[], RgRow.nil W, fun t ht => (by cases ht)⟩
  · simp [Value.cells] at hcs
    obtain ⟨rfl, rfl, rfl⟩ := hcs
    simp only [if_true] at hmm
    obtain rfl := hmm.symm
    simp only [Prod.mk.injEq] at hx
    obtain ⟨_, rfl⟩ := hx
    rw [cellsR] at hi hlt
    have hk : ∀ j : Fin len, ∃ x : Rg, (in64 x.1 ∧ in64 x.2) ∧ ∀ (i : Nat) (u : Value), ([.int .i64 x.1, .int .i64 x.2] : List Value)[i]? = some u → W.cell? ((a.add (j.1 * 2)).add i) = some u := fun j => by
      have hjm : j.1 < cap := Nat.lt_of_lt_of_le j.2 hl
      obtain ⟨cs', hc, ht⟩ := hi j.1 hjm
      obtain ⟨_, hcl, hat⟩ := World.cells?_some hc
      obtain ⟨x, rfl, h1, h2⟩ := rg_of ht
      refine ⟨x, ⟨h1, h2⟩, fun i u hu => ?_⟩
      have hi2 : i < 2 := by
        have := (List.getElem?_eq_some_iff.1 hu).1
        simpa using this
      rw [hat i hi2]
      exact hu
    obtain ⟨f, hf2⟩ := Classical.axiomOfChoice hk
    have hlen : (List.ofFn f).length = len := by simp
    have hget : ∀ (j : Nat) (x : Rg), (List.ofFn f)[j]? = some x → ∃ h : j < len, x = f ⟨j, h⟩ := fun j x hj => by
      have h : j < len := by rw [← hlen]; exact (List.getElem?_eq_some_iff.1 hj).1
      refine ⟨h, ?_⟩
      simp [h] at hj
      exact hj.symm
    refine ⟨List.ofFn f, ⟨some a, cap, by rw [hlen], by rw [hlen]; exact hl, ⟨by unfold maxLen at hm; omega, fun h => by cases h⟩, fun j x hj => ?_⟩, fun x hx => ?_⟩
    · obtain ⟨hjl, rfl⟩ := hget j x hj
      obtain ⟨_, hc⟩ := hf2 ⟨j, hjl⟩
      obtain ⟨b, off, spot⟩ := a
      have hspot : spot = none := by
        obtain ⟨_, hc0⟩ := hf2 ⟨0, by omega⟩
        simpa [Addr.add] using World.cell?_spot (hc0 0 _ rfl)
      subst hspot
      have hbW : b < W.heap.size := hlt (.cell b (off + j * 2)) (List.mem_append_left _ (MemPlace.mem_row.2 ⟨j * 2, by omega, by simp⟩))
      have hc' : ∀ (i : Nat) (u : Value), ([.int .i64 (f ⟨j, hjl⟩).1, .int .i64 (f ⟨j, hjl⟩).2] : List Value)[i]? = some u → W.cell? ⟨b, off + j * 2 + i, none⟩ = some u := fun i u hu => by
        have := hc i u hu
        rwa [add_pl, add_pl] at this
      exact ⟨b, off, rfl, hbW, hc' 0 _ rfl, hc' 1 _ rfl⟩
    · obtain ⟨j, hj⟩ := List.getElem?_of_mem hx
      obtain ⟨h, rfl⟩ := hget j x hj
      exact (hf2 ⟨j, h⟩).1
set_option maxRecDepth 100000 in
set_option maxHeartbeats 2000000 in
/-- a row of numbers that is handed over, as the walks read it -/
theorem ints_of {H : Type} {enc : TypeId × Value → H} {W : World} {a0 : Option Addr} {len cap : Nat} {d : DataW H} {p : List MemPlace} {fuel : Nat}
    (hf : DataW.trod enc Tryz.prog W 0 (fun _ => true) true fuel 23 (Value.slice a0 len cap).cells.toList = some (d, p)) (hlt : ∀ x ∈ p, x.block < W.heap.size) :
    ∃ l : List Int, IRow W (.slice a0 len cap) l ∧ ∀ r ∈ l, in64 r := by
  rcases open_ints Tryz.underlying23 Tryz.underlying3 cellsIS hf with ⟨hcs, hx⟩ | ⟨a, len', cap', zs, hcs, _, hl, hm, hz, hx, hcell, hws⟩
  · simp [Value.cells] at hcs
    obtain ⟨rfl, rfl, rfl⟩ := hcs
    exact ⟨[], ⟨none, 0, rfl, Nat.le_refl _, by decide, fun j n hj => by simp at hj⟩, fun r hr => by cases hr⟩
  · simp [Value.cells] at hcs
    obtain ⟨rfl, rfl, rfl⟩ := hcs
    simp only [Prod.mk.injEq] at hx
    obtain ⟨rfl, rfl⟩ := hx
    simp only [if_true] at hz
    unfold maxLen at hm
    have hlen : (zs.take len).length = len := by simp; omega
    refine ⟨zs.take len, ⟨some a, cap, by rw [hlen], by rw [hlen]; exact hl, hm, fun j n hj => ?_⟩, fun r hr => ?_⟩
    · have hjl : j < len := by
        have := (List.getElem?_eq_some_iff.1 hj).1
        rw [List.length_take] at this; omega
      rw [List.getElem?_take, if_pos hjl] at hj
      obtain ⟨b, off, spot⟩ := a
      have hc := hcell j (by omega)
      have hspot : spot = none := by simpa [Addr.add] using World.cell?_spot (hcell 0 (by omega))
      subst hspot
      have hbW : b < W.heap.size := hlt (.cell b (off + j)) (MemPlace.mem_row.2 ⟨j, by omega, by simp⟩)
      refine ⟨b, off, rfl, hbW, ?_⟩
      rw [← add_pl, hc]
      have e : zs.getD j 0 = n := by rw [List.getD, hj]; rfl
      rw [e]
    · have := hws r (List.mem_of_mem_take hr)
      have b0 : IntKind.i64.min ≤ r ∧ r ≤ 9223372036854775807 := by simpa [Lit.wf] using this
      exact ⟨b0.1, b0.2⟩
end Go.Proofs.YtclelkoefeiloaaGreatDoor
