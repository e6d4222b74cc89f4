/- The walks over head.Get, head.Only: each returns what its plain function says. No condition beyond those each names. -/
import Derived.Test.YtgblgbhfgiajiaaGreatDoorHeadA
namespace Go.Proofs.YtgblgbhfgiajiaaGreatDoor
open Go.RowKit

abbrev T (l : List UInt8) : ByteArray := ⟨l.toArray⟩
/-- a slice value that reads as a list of fields -/
def FldRow (W : World) (v : Value) (l : List Fld) : Prop :=
  (v = .slice none 0 0 ∧ l = []) ∨ ∃ b off cap, v = .slice (some ⟨b, off, none⟩) l.length cap ∧ b < W.heap.size ∧ ∀ (j : Nat) (f : Fld), l[j]? = some f → W.cell? ⟨b, off + j * 2, none⟩ = some (.string ⟨f.1.toArray⟩) ∧ W.cell? ⟨b, off + j * 2 + 1, none⟩ = some (.string ⟨f.2.toArray⟩)
theorem FldRow.below {W W' : World} {v : Value} {l : List Fld} (h : FldRow W v l) (hb : Below W.heap.size W W') : FldRow W' v l := by
  rcases h with h | ⟨b, off, cap, rfl, hlt, hc⟩
  · exact Or.inl h
  · exact Or.inr ⟨b, off, cap, rfl, Nat.lt_of_lt_of_le hlt hb.size, fun j f hj => ⟨(hb.cell (p := ⟨b, off + j * 2, none⟩) hlt).trans (hc j f hj).1, (hb.cell (p := ⟨b, off + j * 2 + 1, none⟩) hlt).trans (hc j f hj).2⟩⟩
/-- texts of a list of fields that are no longer than so much -/
def Lens (l : List Fld) : Prop := l.length ≤ 100000 ∧ ∀ f ∈ l, f.1.length ≤ 100000000 ∧ f.2.length ≤ 100000000

theorem get_hit {l : List Fld} {k : Nat} {f : Fld} {n : List UInt8} (hf : l[k]? = some f) (h : smallL f.1 = smallL n) : getF (l.drop k) n = some f.2 := by
  have hk : k < l.length := (List.getElem?_eq_some_iff.1 hf).1
  have : l[k] = f := by rw [List.getElem?_eq_getElem hk] at hf; exact Option.some.inj hf
  rw [List.drop_eq_getElem_cons hk, this]
  simp [getF, List.find?_cons, h]
theorem get_miss {l : List Fld} {k : Nat} {f : Fld} {n : List UInt8} (hf : l[k]? = some f) (h : smallL f.1 ≠ smallL n) : getF (l.drop k) n = getF (l.drop (k + 1)) n := by
  have hk : k < l.length := (List.getElem?_eq_some_iff.1 hf).1
  have : l[k] = f := by rw [List.getElem?_eq_getElem hk] at hf; exact Option.some.inj hf
  rw [List.drop_eq_getElem_cons hk, this]
  have hb : (smallL f.1 == smallL n) = false := by simpa using h
  simp [getF, List.find?_cons, hb]

end Go.Proofs.YtgblgbhfgiajiaaGreatDoor
