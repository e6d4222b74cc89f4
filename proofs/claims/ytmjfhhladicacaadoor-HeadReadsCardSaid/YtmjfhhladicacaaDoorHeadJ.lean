/- The walks over the reference's Get, Only, PrintHead: each returns what its plain function says. No condition beyond those each names. -/
import Derived.Test.YtmjfhhladicacaaDoorHeadI
import Derived.Test.YtmjfhhladicacaaDoorHeadH
import Derived.Deep.RegionHeld3
import Derived.Deep.RegionWith
namespace Go.Proofs.YtmjfhhladicacaaDoor
open Go.RowKit Go.Shelf

set_option maxRecDepth 100000 in
set_option maxHeartbeats 2000000 in
theorem rget_any (v : Value) (l : List Fld) (n : List UInt8) (w : World) (hv : FldRow w v l) (hl : Lens l) (hn : n.length ≤ 1000000) :
    Calls Tryd.prog 26 #[v, .string ⟨n.toArray⟩] w fun e w' => e = .returned (.tuple #[.string (T ((getF l n).getD [])), .bool (getF l n).isSome]) ∧ Below w.heap.size w w' := by
  obtain ⟨ao, cap, rfl, hao⟩ : ∃ ao cap, v = .slice ao l.length cap ∧ (∀ (j : Nat) (f : Fld), l[j]? = some f → ∃ b off, ao = some ⟨b, off, none⟩ ∧ b < w.heap.size ∧ w.cell? ⟨b, off + j * 2, none⟩ = some (.string ⟨f.1.toArray⟩) ∧ w.cell? ⟨b, off + j * 2 + 1, none⟩ = some (.string ⟨f.2.toArray⟩)) := by
    rcases hv with ⟨rfl, rfl⟩ | ⟨b, off, cap, rfl, hlt, hc⟩
    · exact ⟨none, 0, rfl, fun j f hj => by simp at hj⟩
    · exact ⟨_, cap, rfl, fun j f hj => ⟨b, off, rfl, hlt, (hc j f hj).1, (hc j f hj).2⟩⟩
  have HA := Lib.hid hao
  clear hao
  have hll := hl.1
  have cN := fun W => rsmall_any n W (by omega)
  go_enter Tryd.func26, Tryd.ntmps26
  go_wp2_with fail
  go_loopg [10] l.length (fun g s10 wr => ∃ (k : Nat), k + g = l.length ∧ s10 = .int .i64 k ∧ Below w.heap.size w wr ∧ Hid (getF l n = getF (l.drop k) n))
  case atStart => exact ⟨0, by omega, rfl, Below.refl _ _, rfl⟩
  case round =>
    obtain ⟨k, hk, rfl, hbr, Hf⟩ := hrel
    by_cases hlt : k < l.length
    · obtain ⟨g', rfl⟩ : ∃ g', gk = g' + 1 := ⟨gk - 1, by omega⟩
      obtain ⟨f, hf⟩ : ∃ f, l[k]? = some f := ⟨l[k], List.getElem?_eq_getElem hlt⟩
      obtain ⟨b, off, rfl, hb, c1, c2⟩ := HA.out k f hf
      have d1 := (hbr.cell (p := ⟨b, off + k * 2, none⟩) hb).trans c1
      have d2 := (hbr.cell (p := ⟨b, off + k * 2 + 1, none⟩) hb).trans c2
      have hfl := (hl.2 f (List.mem_of_getElem? hf)).1
      have cF := fun W => rsmall_any f.1 W (by omega)
      have hH := fun h => get_hit (n := n) hf h
      have hM := fun h => get_miss (n := n) hf h
      obtain ⟨f1, f2⟩ := f
      clear hf c1 c2
      simp only at cF hH hM d1 d2
      generalize smallL f1 = A at cF hH hM
      generalize smallL n = B at cN hH hM
      by_cases hq : A = B
      · subst hq
        have hg := hH rfl
        clear hH hM
        go_wp2_with (first
          | (go_at_call 31; with_reducible refine (cF _).mono ?_; rintro e w1 ⟨rfl, hb1⟩; have k1 := hb1.cell (p := ⟨wr.heap.size, 1, none⟩) (by simp); have y1 := (hbr.alloc hbr.size _).trans (hb1.mono (by have := hbr.size; simp; omega)); have z1 := hb1.size)
          | (go_at_call 31; with_reducible refine (cN _).mono ?_; rintro e w2 ⟨rfl, hb2⟩; have k2 := hb2.cell (p := ⟨wr.heap.size, 1, none⟩) (by simp at z1; simp; omega); have y2 := y1.trans (hb2.mono y1.size)))
        go_ret2
        exact ⟨by rw [Hf.out, hg]; rfl, y2⟩
      · have hg := hM hq
        have hqb : (A == B) = false := by simpa using hq
        clear hH hM
        go_wp2_with (first
          | (go_at_call 31; with_reducible refine (cF _).mono ?_; rintro e w1 ⟨rfl, hb1⟩; have k1 := hb1.cell (p := ⟨wr.heap.size, 1, none⟩) (by simp); have y1 := (hbr.alloc hbr.size _).trans (hb1.mono (by have := hbr.size; simp; omega)); have z1 := hb1.size)
          | (go_at_call 31; with_reducible refine (cN _).mono ?_; rintro e w2 ⟨rfl, hb2⟩; have k2 := hb2.cell (p := ⟨wr.heap.size, 1, none⟩) (by simp at z1; simp; omega); have y2 := y1.trans (hb2.mono y1.size)))
        go_roundg g'
        case measure => omega
        case rel => exact ⟨k + 1, by omega, by go_num, y2, Hf.out.trans hg⟩
    · have hg : getF l n = none := by rw [Hf.out, List.drop_eq_nil_of_le (by omega)]; rfl
      go_wp2_with fail
      go_ret2
      exact ⟨by rw [hg]; rfl, hbr⟩

theorem any_step {ns : List (List UInt8)} {j : Nat} {n : List UInt8} (p : List UInt8 → Bool) (hn : ns[j]? = some n) : (ns.take (j + 1)).any p = ((ns.take j).any p || p n) := by
  rw [List.take_add_one, hn, List.any_append]; simp
theorem only_step {l : List Fld} {k : Nat} {f : Fld} (ns : List (List UInt8)) (hf : l[k]? = some f) : onlyF (l.take (k + 1)) ns = onlyF (l.take k) ns ++ (if ns.any (fun n => smallL f.1 == smallL n) then [f] else []) := by
  unfold onlyF
  rw [List.take_add_one, hf, List.filter_append]
  congr 1
  simp only [Option.toList_some, List.filter_cons, List.filter_nil]

set_option maxRecDepth 100000 in
set_option maxHeartbeats 4000000 in
theorem ronly_any (v nv : Value) (l : List Fld) (ns : List (List UInt8)) (w : World) (hv : FldRow w v l) (hl : Lens l) (hn : RowAt w nv (ns.map fun n => Value.string (T n))) (hnl : ns.length ≤ 100000 ∧ ∀ n ∈ ns, n.length ≤ 1000000) :
    Calls Tryd.prog 27 #[v, nv] w fun e w' => ∃ r, e = .returned r ∧ FldRow w' r (onlyF l ns) ∧ (∃ ao cap, r = .slice ao (onlyF l ns).length cap) ∧ Below w.heap.size w w' := by
  obtain ⟨ao, cap, rfl, hao⟩ : ∃ ao cap, v = .slice ao l.length cap ∧ (∀ (j : Nat) (f : Fld), l[j]? = some f → ∃ b off, ao = some ⟨b, off, none⟩ ∧ b < w.heap.size ∧ w.cell? ⟨b, off + j * 2, none⟩ = some (.string ⟨f.1.toArray⟩) ∧ w.cell? ⟨b, off + j * 2 + 1, none⟩ = some (.string ⟨f.2.toArray⟩)) := by
    rcases hv with ⟨rfl, rfl⟩ | ⟨b, off, cap, rfl, hlt, hc⟩
    · exact ⟨none, 0, rfl, fun j f hj => by simp at hj⟩
    · exact ⟨_, cap, rfl, fun j f hj => ⟨b, off, rfl, hlt, (hc j f hj).1, (hc j f hj).2⟩⟩
  obtain ⟨an, capn, rfl, han⟩ : ∃ an capn, nv = .slice an ns.length capn ∧ (∀ (j : Nat) (n : List UInt8), ns[j]? = some n → ∃ b off, an = some ⟨b, off, none⟩ ∧ b < w.heap.size ∧ w.cell? ⟨b, off + j, none⟩ = some (.string (T n))) := by
    rcases hn with ⟨rfl, h0⟩ | ⟨b, off, cap, rfl, hlt, hc⟩
    · have : ns = [] := by simpa using h0
      subst this
      exact ⟨none, 0, rfl, fun j f hj => by simp at hj⟩
    · exact ⟨_, cap, by rw [List.length_map], fun j n hj => ⟨b, off, rfl, hlt, hc j _ (by simp [hj])⟩⟩
  have HA := Lib.hid hao
  have HN := Lib.hid han
  clear hao han
  have hll := hl.1
  have hnll := hnl.1
  go_enter Tryd.func27, Tryd.ntmps27
  go_wp2_with fail
  go_loopg [5, 13] l.length (fun g s5 s13 wr => ∃ (k : Nat) (out : List Fld), k + g = l.length ∧ s13 = .int .i64 k ∧ out.length ≤ k ∧ wr.ownsRow w.heap.size 34 2 s5 out.length (fldCells out) ∧ Below w.heap.size w wr ∧ Hid (onlyF (l.take k) ns = out))
  case atStart => exact ⟨0, [], by omega, rfl, by simp, World.ownsRow_nil _ _ _ _, Below.refl _ _, rfl⟩
  case round =>
    obtain ⟨k, out, hk, rfl, hol, hown, hbr, Hf⟩ := hrel
    obtain ⟨ao5, cap5, rfl, hao5⟩ := owns_slice' hown
    by_cases hlt : k < l.length
    · obtain ⟨g', rfl⟩ : ∃ g', gk = g' + 1 := ⟨gk - 1, by omega⟩
      obtain ⟨f, hf⟩ : ∃ f, l[k]? = some f := ⟨l[k], List.getElem?_eq_getElem hlt⟩
      obtain ⟨b, off, rfl, hb, c1, c2⟩ := HA.out k f hf
      have d1 := (hbr.cell (p := ⟨b, off + k * 2, none⟩) hb).trans c1
      have d2 := (hbr.cell (p := ⟨b, off + k * 2 + 1, none⟩) hb).trans c2
      have hfl := (hl.2 f (List.mem_of_getElem? hf)).1
      have cF := fun W => rsmall_any f.1 W (by omega)
      have HF := Lib.hid (only_step ns hf)
      obtain ⟨f1, f2⟩ := f
      clear hf c1 c2
      simp only at cF d1 d2 hfl
      have hsz := hbr.size
      go_wp2_with fail
      obtain ⟨wo, rfl⟩ : ∃ wo : World, wo = wr := ⟨_, rfl⟩
      go_loopg [8, 19] ns.length (fun g s8 s19 wr => ∃ (j : Nat) (ok : Bool), j + g = ns.length ∧ s19 = .int .i64 j ∧ s8 = .bool ok ∧ wr.ownsRow w.heap.size 34 2 (.slice ao5 out.length cap5) out.length (fldCells out) ∧ Below w.heap.size w wr ∧ wo.heap.size < wr.heap.size ∧
        wr.heap[wo.heap.size]? = some (.cells #[.string ⟨f1.toArray⟩, .string ⟨f2.toArray⟩] 34 (0, 0)) ∧ Hid (ok = (ns.take j).any (fun n => smallL f1 == smallL n)))
      case atStart => exact ⟨0, false, by omega, rfl, rfl, hown.alloc _, hbr.alloc hsz _, by simp, World.heap_alloc_new _ _, rfl⟩
      case round =>
        obtain ⟨j, ok, hj, rfl, rfl, hown2, hb2, hsz2, hU, HM⟩ := hrel
        by_cases hltj : j < ns.length
        · obtain ⟨g2, rfl⟩ : ∃ g2, gk = g2 + 1 := ⟨gk - 1, by omega⟩
          obtain ⟨n, hnj⟩ : ∃ n, ns[j]? = some n := ⟨ns[j], List.getElem?_eq_getElem hltj⟩
          obtain ⟨bn, offn, rfl, hbn, c3⟩ := HN.out j n hnj
          have d3 := (hb2.cell (p := ⟨bn, offn + j, none⟩) hbn).trans c3
          have d4 : wr.cell? ⟨wo.heap.size, 0, none⟩ = some (.string ⟨f1.toArray⟩) := by rw [Lib.cell_of_heap hU]; rfl
          have hnn := hnl.2 n (List.mem_of_getElem? hnj)
          have cN := fun W => rsmall_any n W (by omega)
          have hst := any_step (fun n => smallL f1 == smallL n) hnj
          rw [← HM.out] at hst
          clear c3 hnj
          cases ok
          · have HX : Hid ((ns.take (j + 1)).any (fun n => smallL f1 == smallL n) = (smallL f1 == smallL n)) := by rw [Bool.false_or] at hst; exact hst
            clear hst
            have hcomm : (smallL f1 == smallL n) = (smallL n == smallL f1) := Bool.beq_comm
            rw [hcomm] at HX
            generalize hq : (smallL n == smallL f1) = q at HX
            have Hq : Hid ((smallL n == smallL f1) = q) := hq
            clear hcomm hq
            generalize smallL f1 = A at cF Hq
            generalize smallL n = B at cN Hq
            have hqb := Hq.out
            go_wp2_with fail
            have y := hb2.drew
            have o := hown2.drew
            have u : wr.drew.heap[wo.heap.size]? = some (.cells #[.string ⟨f1.toArray⟩, .string ⟨f2.toArray⟩] 34 (0, 0)) := hU
            have hz : wo.heap.size < wr.drew.heap.size := hsz2
            have e4 := (two_cells u).1
            go_region_with (first
              | (go_at_call 31; with_reducible refine (cN _).mono ?_; rintro e w1 ⟨rfl, h1⟩; have y := y.trans (h1.mono y.size); have o := owns_below o h1; have u := below_same h1 u; have hz := Nat.lt_of_lt_of_le hz h1.size; have e4 := (two_cells u).1)
              | (go_at_call 31; with_reducible refine (cF _).mono ?_; rintro e w2 ⟨rfl, h2⟩; have y := y.trans (h2.mono y.size); have o := owns_below o h2; have u := below_same h2 u; have hz := Nat.lt_of_lt_of_le hz h2.size; have e4 := (two_cells u).1))
            all_goals
              go_wp2_with fail
              go_roundg g2
              case measure => omega
              case rel => exact ⟨j + 1, q, by omega, by go_num, rfl, o, y, hz, u, HX.out.symm⟩
          · have HX : Hid ((ns.take (j + 1)).any (fun n => smallL f1 == smallL n) = true) := by rw [Bool.true_or] at hst; exact hst
            clear hst
            go_wp2_with fail
            go_region
            go_wp2_with fail
            go_roundg g2
            case measure => omega
            case rel => exact ⟨j + 1, true, by omega, by go_num, rfl, hown2.drew, hb2.drew, hsz2, hU, HX.out.symm⟩
        · have hst := HF.out
          have hall := HM.out
          rw [List.take_of_length_le (by omega)] at hall
          try simp only at hst
          rw [← hall, Hf.out] at hst
          cases ok
          · have HX : Hid (onlyF (l.take (k + 1)) ns = out) := by show _ = _; simpa using hst
            clear hst hall
            go_wp2_with fail
            go_roundg g'
            case measure => omega
            case rel => exact ⟨k + 1, out, by omega, by go_num, by omega, hown2, hb2, HX.out⟩
          · have HX : Hid (onlyF (l.take (k + 1)) ns = out ++ [(f1, f2)]) := by show _ = _; simpa using hst
            have k4 := (two_cells hU).1
            have k5 := (two_cells hU).2
            clear hst hall
            go_wp2_with (first
              | (at_builtin; go_must (refine wpList_app2 rfl _ _ 23 rfl 34 Tryd.underlying23 fld_info rfl w.heap.size _ _ _ _ rfl hown2 (.string ⟨f1.toArray⟩) (.string ⟨f2.toArray⟩) rfl rfl rfl ?c3 (by decide) ?c5 ?_)))
            case c3 => omega
            case c5 => exact hb2.size
            intro v' w3 hown3 hg3 hv3
            have y3 := below_app2 hb2 hb2.size hown2 hg3
            rw [fldCells_snoc out (f1, f2)] at hown3
            clear k4 k5
            go_wp2_with fail
            go_roundg g'
            case measure => omega
            case rel => exact ⟨k + 1, out ++ [(f1, f2)], by omega, by go_num, by simp; omega, by simpa using hown3, y3, HX.out⟩
    · have hg : onlyF l ns = out := by have := Hf.out; rwa [List.take_of_length_le (by omega)] at this
      have HG := Lib.hid hg
      clear hg
      go_wp2_with fail
      go_ret
      refine ⟨_, rfl, ?_, ?_, hbr⟩
      · rw [HG.out]; exact fldRow_of_owns hown
      · rw [HG.out]
        obtain ⟨ao, cap, h, _⟩ := owns_slice' hown
        exact ⟨ao, cap, h⟩

set_option maxRecDepth 100000 in
set_option maxHeartbeats 4000000 in
theorem rprint_any (v : Value) (l : List Fld) (w : World) (hv : FldRow w v l) (hl : Lens l) :
    Calls Tryd.prog 29 #[v] w fun e w' => e = .returned (.string ⟨(printF l).toArray⟩) ∧ Below w.heap.size w w' := by
  obtain ⟨ao, cap, rfl, hao⟩ : ∃ ao cap, v = .slice ao l.length cap ∧ (∀ (j : Nat) (f : Fld), l[j]? = some f → ∃ b off, ao = some ⟨b, off, none⟩ ∧ b < w.heap.size ∧ w.cell? ⟨b, off + j * 2, none⟩ = some (.string ⟨f.1.toArray⟩) ∧ w.cell? ⟨b, off + j * 2 + 1, none⟩ = some (.string ⟨f.2.toArray⟩)) := by
    rcases hv with ⟨rfl, rfl⟩ | ⟨b, off, cap, rfl, hlt, hc⟩
    · exact ⟨none, 0, rfl, fun j f hj => by simp at hj⟩
    · exact ⟨_, cap, rfl, fun j f hj => ⟨b, off, rfl, hlt, (hc j f hj).1, (hc j f hj).2⟩⟩
  have HA := Lib.hid hao
  clear hao
  have hll := hl.1
  go_enter Tryd.func29, Tryd.ntmps29
  go_wp2_with fail
  go_loopg [3, 8] l.length (fun g s3 s8 wr => ∃ (k : Nat) (U : List UInt8), k + g = l.length ∧ s8 = .int .i64 k ∧ s3 = .string ⟨U.toArray⟩ ∧ Below w.heap.size w wr ∧ U.length ≤ k * 200000004 ∧ Hid (U = linesF (l.take k)))
  case atStart => exact ⟨0, [], by omega, rfl, rfl, Below.refl _ _, Nat.zero_le _, rfl⟩
  case round =>
    obtain ⟨k, U, hk, rfl, rfl, hbr, hUl, HU⟩ := hrel
    have t5 := text_size U
    by_cases hlt : k < l.length
    · obtain ⟨g', rfl⟩ : ∃ g', gk = g' + 1 := ⟨gk - 1, by omega⟩
      obtain ⟨f, hf⟩ : ∃ f, l[k]? = some f := ⟨l[k], List.getElem?_eq_getElem hlt⟩
      obtain ⟨b, off, rfl, hb, c1, c2⟩ := HA.out k f hf
      have d1 := (hbr.cell (p := ⟨b, off + k * 2, none⟩) hb).trans c1
      have d2 := (hbr.cell (p := ⟨b, off + k * 2 + 1, none⟩) hb).trans c2
      have hfl := hl.2 f (List.mem_of_getElem? hf)
      have hstep := Lib.hid (lines_step hf)
      obtain ⟨f1, f2⟩ := f
      clear hf c1 c2
      simp only at d1 d2 hfl
      obtain ⟨q1, hq1⟩ : ∃ q1, q1 = f1 ++ [58, 32] := ⟨_, rfl⟩
      obtain ⟨q2, hq2⟩ : ∃ q2, q2 = q1 ++ f2 := ⟨_, rfl⟩
      obtain ⟨q3, hq3⟩ : ∃ q3, q3 = q2 ++ [13, 10] := ⟨_, rfl⟩
      obtain ⟨q4, hq4⟩ : ∃ q4, q4 = U ++ q3 := ⟨_, rfl⟩
      have a1 : (⟨f1.toArray⟩ : ByteArray) ++ ⟨#[58, 32]⟩ = ⟨q1.toArray⟩ := by rw [hq1]; exact text_cat _ _
      have a2 : (⟨q1.toArray⟩ : ByteArray) ++ ⟨f2.toArray⟩ = ⟨q2.toArray⟩ := by rw [hq2]; exact text_cat _ _
      have a3 : (⟨q2.toArray⟩ : ByteArray) ++ ⟨#[13, 10]⟩ = ⟨q3.toArray⟩ := by rw [hq3]; exact text_cat _ _
      have a4 : (⟨U.toArray⟩ : ByteArray) ++ ⟨q3.toArray⟩ = ⟨q4.toArray⟩ := by rw [hq4]; exact text_cat _ _
      have l1 : q1.length = f1.length + 2 := by rw [hq1]; simp
      have l2 : q2.length = f1.length + 2 + f2.length := by rw [hq2, List.length_append, l1]
      have l3 : q3.length = f1.length + 2 + f2.length + 2 := by rw [hq3, List.length_append, l2]; rfl
      have l4 : q4.length = U.length + (f1.length + 2 + f2.length + 2) := by rw [hq4, List.length_append, l3]
      have t1 := text_size f1
      have t2 := text_size q1
      have t3 := text_size f2
      have t4 := text_size q2
      have t6 := text_size q3
      have hq : lineF (f1, f2) ++ [13, 10] = q3 := by rw [hq3, hq2, hq1]; rfl
      have HX : Hid (q4 = linesF (l.take (k + 1))) := by
        show _ = _
        rw [hstep.out, hq, hq4, HU.out]
      have hf1 : f1.length ≤ 100000000 := hfl.1
      have hf2 : f2.length ≤ 100000000 := hfl.2
      have hUm : U.length + q3.length ≤ 100000000000000 := by omega
      clear hq hq1 hq2 hq3 hq4 hstep hfl
      go_wp2_with fail
      go_roundg g'
      case measure => omega
      case rel => exact ⟨k + 1, q4, by omega, by go_num, rfl, hbr.alloc hbr.size _, by omega, HX.out⟩
    · have hk2 : k = l.length := by omega
      have hU2 : U = linesF l := by
        have := HU.out
        rwa [hk2, List.take_of_length_le (Nat.le_refl _)] at this
      have a5 : (⟨U.toArray⟩ : ByteArray) ++ ⟨#[13, 10]⟩ = ⟨(printF l).toArray⟩ := by rw [print_lines, ← hU2]; exact text_cat _ _
      have hUm : U.length + 2 ≤ 100000000000000 := by omega
      clear hU2 HU
      go_wp2_with fail
      go_ret
      exact ⟨rfl, hbr⟩
end Go.Proofs.YtmjfhhladicacaaDoor
