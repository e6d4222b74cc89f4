/- The walk over head.Only: it returns what its plain function says. No condition beyond those it names. -/
import Derived.Test.YtgblgbhfgiajiaaGreatDoorHeadB
import Derived.Test.YtgblgbhfgiajiaaGreatDoorApp2
namespace Go.Proofs.YtgblgbhfgiajiaaGreatDoor
open Go.RowKit

def fldCells (l : List Fld) : List Value := l.flatMap fun f => [Value.string ⟨f.1.toArray⟩, Value.string ⟨f.2.toArray⟩]
theorem fldCells_snoc (l : List Fld) (f : Fld) : fldCells l ++ [Value.string ⟨f.1.toArray⟩, Value.string ⟨f.2.toArray⟩] = fldCells (l ++ [f]) := by simp [fldCells]
theorem fldCells_at : ∀ (l : List Fld) (j : Nat) (f : Fld), l[j]? = some f → (fldCells l)[j * 2]? = some (Value.string ⟨f.1.toArray⟩) ∧ (fldCells l)[j * 2 + 1]? = some (Value.string ⟨f.2.toArray⟩)
  | g :: l, 0, f, h => by simp at h; subst h; exact ⟨rfl, rfl⟩
  | g :: l, j + 1, f, h => by
    have := fldCells_at l j f (by simpa using h)
    rw [show (j + 1) * 2 = j * 2 + 1 + 1 by omega]
    exact this
theorem fldRow_of_owns {w : World} {B : Nat} {e : TypeId} {v : Value} {l : List Fld} (h : w.ownsRow B e 2 v l.length (fldCells l)) : FldRow w v l := by
  rcases h.2 with ⟨rfl, h0⟩ | ⟨g, cap, cur, rfl, _, hh, _⟩
  · exact Or.inl ⟨rfl, List.eq_nil_of_length_eq_zero h0⟩
  · refine Or.inr ⟨g, 0, cap, rfl, (Array.getElem?_eq_some_iff.1 hh).1, ?_⟩
    intro j f hj
    have hl : j < l.length := (List.getElem?_eq_some_iff.1 hj).1
    obtain ⟨c1, c2⟩ := fldCells_at l j f hj
    rw [Nat.zero_add]
    exact ⟨(h.cellAt _ (by omega)).trans c1, (h.cellAt _ (by omega)).trans c2⟩

theorem owns_slice' {w : World} {B : Nat} {e : TypeId} {sz : Nat} {v : Value} {n : Nat} {xs : List Value} (h : w.ownsRow B e sz v n xs) : ∃ ao cap, v = .slice ao n cap ∧ (0 < n → ∃ g, ao = some ⟨g, 0, none⟩) := by
  rcases h.2 with ⟨rfl, rfl⟩ | ⟨g, cap, cur, rfl, _⟩
  · exact ⟨none, 0, rfl, fun h => absurd h (by decide)⟩
  · exact ⟨_, _, rfl, fun _ => ⟨g, rfl⟩⟩
theorem only_hit {l : List Fld} {k : Nat} {f : Fld} {ns : List (List UInt8)} {n : List UInt8} (hf : l[k]? = some f) (hn : n ∈ ns) (h : smallL f.1 = smallL n) : onlyF (l.take (k + 1)) ns = onlyF (l.take k) ns ++ [f] := by
  rw [List.take_add_one, hf]
  unfold onlyF
  rw [List.filter_append]
  have : (ns.any fun n => smallL f.1 == smallL n) = true := List.any_eq_true.2 ⟨n, hn, by simpa using h⟩
  simp [List.filter_cons, this]
theorem only_miss {l : List Fld} {k : Nat} {f : Fld} {ns : List (List UInt8)} (hf : l[k]? = some f) (h : ∀ n ∈ ns, smallL f.1 ≠ smallL n) : onlyF (l.take (k + 1)) ns = onlyF (l.take k) ns := by
  rw [List.take_add_one, hf]
  unfold onlyF
  rw [List.filter_append]
  have : (ns.any fun n => smallL f.1 == smallL n) = false := by
    rw [List.any_eq_false]; intro n hn; simpa using h n hn
  simp [List.filter_cons, this]
theorem no_more {ns : List (List UInt8)} {j : Nat} {n A : List UInt8} (hn : ns[j]? = some n) (h : ∀ m ∈ ns.take j, A ≠ smallL m) (h2 : A ≠ smallL n) : ∀ m ∈ ns.take (j + 1), A ≠ smallL m := by
  intro m hm
  rw [List.take_add_one, hn, List.mem_append] at hm
  rcases hm with hm | hm
  · exact h m hm
  · simp at hm; rw [hm]; exact h2

theorem fld_info : (Tryz.prog.info? 67).map (fun i => (i.zero, i.size, i.bytes)) = some (some (.agg #[.string ByteArray.empty, .string ByteArray.empty]), 2, 32) := by kernel_rfl

end Go.Proofs.YtgblgbhfgiajiaaGreatDoor
