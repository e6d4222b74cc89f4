/- The walks over head.Get, head.Only: each returns what its plain function says. No condition beyond those each names. -/
import Derived.Test.YtmjfhhladicacaaGreatDoorHeadA
namespace Go.Proofs.YtmjfhhladicacaaGreatDoor
open Go.RowKit

abbrev T (l : List UInt8) : ByteArray := ⟨l.toArray⟩
/-- a slice value that reads as a list of fields -/
def FldRow (W : World) (v : Value) (l : List Fld) : Prop :=
  (v = .slice none 0 0 ∧ l = []) ∨ ∃ b off cap, v = .slice (some ⟨b, off, none⟩) l.length cap ∧ b < W.heap.size ∧ ∀ (j : Nat) (f : Fld), l[j]? = some f → W.cell? ⟨b, off + j * 2, none⟩ = some (.string ⟨f.1.toArray⟩) ∧ W.cell? ⟨b, off + j * 2 + 1, none⟩ = some (.string ⟨f.2.toArray⟩)
theorem FldRow.below {W W' : World} {v : Value} {l : List Fld} (h : FldRow W v l) (hb : Below W.heap.size W W') : FldRow W' v l := by
  rcases h with h | ⟨b, off, cap, rfl, hlt, hc⟩
  · exact Or.inl h
  · exact Or.inr ⟨b, off, cap, rfl, Nat.lt_of_lt_of_le hlt hb.size, fun j f hj => ⟨(hb.cell (p := ⟨b, off + j * 2, none⟩) hlt).trans (hc j f hj).1, (hb.cell (p := ⟨b, off + j * 2 + 1, none⟩) hlt).trans (hc j f hj).2⟩⟩
/-- texts of a list of fields that are no longer than so much -/
def Lens (l : List Fld) : Prop := l.length ≤ 100000 ∧ ∀ f ∈ l, f.1.length ≤ 100000000 ∧ f.2.length ≤ 100000000

theorem get_hit {l : List Fld} {k : Nat} {f : Fld} {n : List UInt8} (hf : l[k]? = some f) (h : smallL f.1 = smallL n) : getF (l.drop k) n = some f.2 := by
  have hk : k < l.length := (List.getElem?_eq_some_iff.1 hf).1
  have : l[k] = f := by rw [List.getElem?_eq_getElem hk] at hf; exact Option.some.inj hf
  rw [List.drop_eq_getElem_cons hk, this]
  simp [getF, List.find?_cons, h]
theorem get_miss {l : List Fld} {k : Nat} {f : Fld} {n : List UInt8} (hf : l[k]? = some f) (h : smallL f.1 ≠ smallL n) : getF (l.drop k) n = getF (l.drop (k + 1)) n := by
  have hk : k < l.length := (List.getElem?_eq_some_iff.1 hf).1
  have : l[k] = f := by rw [List.getElem?_eq_getElem hk] at hf; exact Option.some.inj hf
  rw [List.drop_eq_getElem_cons hk, this]
  have hb : (smallL f.1 == smallL n) = false := by simpa using h
  simp [getF, List.find?_cons, hb]

set_option maxRecDepth 100000 in
set_option maxHeartbeats 2000000 in
theorem get_any (v : Value) (l : List Fld) (n : List UInt8) (w : World) (hv : FldRow w v l) (hl : Lens l) (hn : n.length ≤ 1000000) :
    Calls Tryz.prog 44 #[v, .string (T n)] w fun e w' => e = .returned (.tuple #[.string (T ((getF l n).getD [])), .bool (getF l n).isSome]) ∧ Below w.heap.size w w' := by
  obtain ⟨ao, cap, rfl, hao⟩ : ∃ ao cap, v = .slice ao l.length cap ∧ (∀ (j : Nat) (f : Fld), l[j]? = some f → ∃ b off, ao = some ⟨b, off, none⟩ ∧ b < w.heap.size ∧ w.cell? ⟨b, off + j * 2, none⟩ = some (.string ⟨f.1.toArray⟩) ∧ w.cell? ⟨b, off + j * 2 + 1, none⟩ = some (.string ⟨f.2.toArray⟩)) := by
    rcases hv with ⟨rfl, rfl⟩ | ⟨b, off, cap, rfl, hlt, hc⟩
    · exact ⟨none, 0, rfl, fun j f hj => by simp at hj⟩
    · exact ⟨_, cap, rfl, fun j f hj => ⟨b, off, rfl, hlt, (hc j f hj).1, (hc j f hj).2⟩⟩
  have HA := Lib.hid hao
  clear hao
  have hll := hl.1
  have cN := fun W => small_any (T n) W (by rw [Lib.size_eq]; show n.length ≤ _; omega)
  simp only [List.toList_toArray] at cN
  go_enter Tryz.func44, Tryz.ntmps44
  go_wp2_with fail
  go_loopg [10] l.length (fun g s10 wr => ∃ (k : Nat), k + g = l.length ∧ s10 = .int .i64 k ∧ Below w.heap.size w wr ∧ Hid (getF l n = getF (l.drop k) n))
  case atStart => exact ⟨0, by omega, rfl, Below.refl _ _, rfl⟩
  case round =>
    obtain ⟨k, hk, rfl, hbr, Hf⟩ := hrel
    by_cases hlt : k < l.length
    · obtain ⟨g', rfl⟩ : ∃ g', gk = g' + 1 := ⟨gk - 1, by omega⟩
      obtain ⟨f, hf⟩ : ∃ f, l[k]? = some f := ⟨l[k], List.getElem?_eq_getElem hlt⟩
      obtain ⟨b, off, rfl, hb, c1, c2⟩ := HA.out k f hf
      have d1 := (hbr.cell (p := ⟨b, off + k * 2, none⟩) hb).trans c1
      have d2 := (hbr.cell (p := ⟨b, off + k * 2 + 1, none⟩) hb).trans c2
      have hfl := (hl.2 f (List.mem_of_getElem? hf)).1
      have cF := fun W => small_any (T f.1) W (by rw [Lib.size_eq]; show f.1.length ≤ _; omega)
      simp only [List.toList_toArray] at cF
      have hH := fun h => get_hit (n := n) hf h
      have hM := fun h => get_miss (n := n) hf h
      obtain ⟨f1, f2⟩ := f
      clear hf c1 c2
      simp only at cF hH hM d1 d2
      generalize smallL f1 = A at cF hH hM
      generalize smallL n = B at cN hH hM
      by_cases hq : A = B
      · subst hq
        have hg := hH rfl
        clear hH hM
        go_wp2_with (first
          | (go_at_call 46; with_reducible refine (cF _).mono ?_; rintro e w1 ⟨rfl, hb1⟩; have k1 := hb1.cell (p := ⟨wr.heap.size, 1, none⟩) (by simp); have y1 := (hbr.alloc hbr.size _).trans (hb1.mono (by have := hbr.size; simp; omega)); have z1 := hb1.size)
          | (go_at_call 46; with_reducible refine (cN _).mono ?_; rintro e w2 ⟨rfl, hb2⟩; have k2 := hb2.cell (p := ⟨wr.heap.size, 1, none⟩) (by simp at z1; simp; omega); have y2 := y1.trans (hb2.mono y1.size)))
        go_ret2
        exact ⟨by rw [Hf.out, hg]; rfl, y2⟩
      · have hg := hM hq
        have hqb : (A == B) = false := by simpa using hq
        clear hH hM
        go_wp2_with (first
          | (go_at_call 46; with_reducible refine (cF _).mono ?_; rintro e w1 ⟨rfl, hb1⟩; have k1 := hb1.cell (p := ⟨wr.heap.size, 1, none⟩) (by simp); have y1 := (hbr.alloc hbr.size _).trans (hb1.mono (by have := hbr.size; simp; omega)); have z1 := hb1.size)
          | (go_at_call 46; with_reducible refine (cN _).mono ?_; rintro e w2 ⟨rfl, hb2⟩; have k2 := hb2.cell (p := ⟨wr.heap.size, 1, none⟩) (by simp at z1; simp; omega); have y2 := y1.trans (hb2.mono y1.size)))
        go_roundg g'
        case measure => omega
        case rel => exact ⟨k + 1, by omega, by go_num, y2, Hf.out.trans hg⟩
    · have hg : getF l n = none := by rw [Hf.out, List.drop_eq_nil_of_le (by omega)]; rfl
      go_wp2_with fail
      go_ret2
      exact ⟨by rw [hg]; rfl, hbr⟩
end Go.Proofs.YtmjfhhladicacaaGreatDoor
