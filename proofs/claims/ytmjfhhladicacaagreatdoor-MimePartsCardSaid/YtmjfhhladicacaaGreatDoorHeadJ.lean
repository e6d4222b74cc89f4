/- The walks over the reference's Get, Only, PrintHead: each returns what its plain function says. No condition beyond those each names. -/
import Derived.Test.YtmjfhhladicacaaGreatDoorHeadI
import Derived.Test.YtmjfhhladicacaaGreatDoorHeadH
import Derived.Deep.RegionHeld3
import Derived.Deep.RegionWith
namespace Go.Proofs.YtmjfhhladicacaaGreatDoor
open Go.RowKit Go.Shelf

set_option maxRecDepth 100000 in
set_option maxHeartbeats 2000000 in
theorem rget_any (v : Value) (l : List Fld) (n : List UInt8) (w : World) (hv : FldRow w v l) (hl : Lens l) (hn : n.length ≤ 1000000) :
    Calls Tryz.prog 35 #[v, .string ⟨n.toArray⟩] w fun e w' => e = .returned (.tuple #[.string (T ((getF l n).getD [])), .bool (getF l n).isSome]) ∧ Below w.heap.size w w' := by
  obtain ⟨ao, cap, rfl, hao⟩ : ∃ ao cap, v = .slice ao l.length cap ∧ (∀ (j : Nat) (f : Fld), l[j]? = some f → ∃ b off, ao = some ⟨b, off, none⟩ ∧ b < w.heap.size ∧ w.cell? ⟨b, off + j * 2, none⟩ = some (.string ⟨f.1.toArray⟩) ∧ w.cell? ⟨b, off + j * 2 + 1, none⟩ = some (.string ⟨f.2.toArray⟩)) := by
    rcases hv with ⟨rfl, rfl⟩ | ⟨b, off, cap, rfl, hlt, hc⟩
    · exact ⟨none, 0, rfl, fun j f hj => by simp at hj⟩
    · exact ⟨_, cap, rfl, fun j f hj => ⟨b, off, rfl, hlt, (hc j f hj).1, (hc j f hj).2⟩⟩
  have HA := Lib.hid hao
  clear hao
  have hll := hl.1
  have cN := fun W => rsmall_any n W (by omega)
  go_enter Tryz.func35, Tryz.ntmps35
  go_wp2_with fail
  go_loopg [10] l.length (fun g s10 wr => ∃ (k : Nat), k + g = l.length ∧ s10 = .int .i64 k ∧ Below w.heap.size w wr ∧ Hid (getF l n = getF (l.drop k) n))
  case atStart => exact ⟨0, by omega, rfl, Below.refl _ _, rfl⟩
  case round =>
    obtain ⟨k, hk, rfl, hbr, Hf⟩ := hrel
    by_cases hlt : k < l.length
    · obtain ⟨g', rfl⟩ : ∃ g', gk = g' + 1 := ⟨gk - 1, by omega⟩
      obtain ⟨f, hf⟩ : ∃ f, l[k]? = some f := ⟨l[k], List.getElem?_eq_getElem hlt⟩
      obtain ⟨b, off, rfl, hb, c1, c2⟩ := HA.out k f hf
      have d1 := (hbr.cell (p := ⟨b, off + k * 2, none⟩) hb).trans c1
      have d2 := (hbr.cell (p := ⟨b, off + k * 2 + 1, none⟩) hb).trans c2
      have hfl := (hl.2 f (List.mem_of_getElem? hf)).1
      have cF := fun W => rsmall_any f.1 W (by omega)
      have hH := fun h => get_hit (n := n) hf h
      have hM := fun h => get_miss (n := n) hf h
      obtain ⟨f1, f2⟩ := f
      clear hf c1 c2
      simp only at cF hH hM d1 d2
      generalize smallL f1 = A at cF hH hM
      generalize smallL n = B at cN hH hM
      by_cases hq : A = B
      · subst hq
        have hg := hH rfl
        clear hH hM
        go_wp2_with (first
          | (go_at_call 37; with_reducible refine (cF _).mono ?_; rintro e w1 ⟨rfl, hb1⟩; have k1 := hb1.cell (p := ⟨wr.heap.size, 1, none⟩) (by simp); have y1 := (hbr.alloc hbr.size _).trans (hb1.mono (by have := hbr.size; simp; omega)); have z1 := hb1.size)
          | (go_at_call 37; with_reducible refine (cN _).mono ?_; rintro e w2 ⟨rfl, hb2⟩; have k2 := hb2.cell (p := ⟨wr.heap.size, 1, none⟩) (by simp at z1; simp; omega); have y2 := y1.trans (hb2.mono y1.size)))
        go_ret2
        exact ⟨by rw [Hf.out, hg]; rfl, y2⟩
      · have hg := hM hq
        have hqb : (A == B) = false := by simpa using hq
        clear hH hM
        go_wp2_with (first
          | (go_at_call 37; with_reducible refine (cF _).mono ?_; rintro e w1 ⟨rfl, hb1⟩; have k1 := hb1.cell (p := ⟨wr.heap.size, 1, none⟩) (by simp); have y1 := (hbr.alloc hbr.size _).trans (hb1.mono (by have := hbr.size; simp; omega)); have z1 := hb1.size)
          | (go_at_call 37; with_reducible refine (cN _).mono ?_; rintro e w2 ⟨rfl, hb2⟩; have k2 := hb2.cell (p := ⟨wr.heap.size, 1, none⟩) (by simp at z1; simp; omega); have y2 := y1.trans (hb2.mono y1.size)))
        go_roundg g'
        case measure => omega
        case rel => exact ⟨k + 1, by omega, by go_num, y2, Hf.out.trans hg⟩
    · have hg : getF l n = none := by rw [Hf.out, List.drop_eq_nil_of_le (by omega)]; rfl
      go_wp2_with fail
      go_ret2
      exact ⟨by rw [hg]; rfl, hbr⟩

theorem any_step {ns : List (List UInt8)} {j : Nat} {n : List UInt8} (p : List UInt8 → Bool) (hn : ns[j]? = some n) : (ns.take (j + 1)).any p = ((ns.take j).any p || p n) := by
  rw [List.take_add_one, hn, List.any_append]; simp
theorem only_step {l : List Fld} {k : Nat} {f : Fld} (ns : List (List UInt8)) (hf : l[k]? = some f) : onlyF (l.take (k + 1)) ns = onlyF (l.take k) ns ++ (if ns.any (fun n => smallL f.1 == smallL n) then [f] else []) := by
  unfold onlyF
  rw [List.take_add_one, hf, List.filter_append]
  congr 1
  simp only [Option.toList_some, List.filter_cons, List.filter_nil]


end Go.Proofs.YtmjfhhladicacaaGreatDoor
