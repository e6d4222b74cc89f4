/- A byte of a text, as a list has it. No program here. -/
import Derived.Test.YtdlfbhbgemoelaaGreatDoorText
namespace Go.Proofs.YtdlfbhbgemoelaaGreatDoor

theorem byte_at {S : List UInt8} {a : Nat} {c : UInt8} (h : S[a]? = some c) (hl : a < (⟨S.toArray⟩ : ByteArray).size) : (⟨S.toArray⟩ : ByteArray)[a]'hl = c := by
  obtain ⟨h1, rfl⟩ := List.getElem?_eq_some_iff.1 h
  rfl
end Go.Proofs.YtdlfbhbgemoelaaGreatDoor
