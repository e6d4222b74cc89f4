/- strings.Join with one byte between. No condition beyond those each names. -/
import Derived.Test.YtgblgbhfgiajiaaGreatDoorShelf
import Derived.Test.YtgblgbhfgiajiaaGreatDoorSRow
import Derived.Lib.Join
namespace Go.Proofs.YtgblgbhfgiajiaaGreatDoor
open Go.RowKit Go.Shelf

theorem joinS_any (c : UInt8) (v : Value) (l : List (List UInt8)) (w : World) (hv : SRow w v l) (hl : l.length ≤ 1000000) (hj : (Lib.join l [c]).length ≤ 1000000) :
    Calls Tryz.prog 15 #[v, .string ⟨#[c]⟩] w fun e w' => e = .returned (.string ⟨(Lib.join l [c]).toArray⟩) ∧ Below w.heap.size w w' := by
  obtain ⟨ao, cap, rfl, hcap, _, hcell⟩ := hv
  cases l with
  | nil => exact (Tryz.strings_Join_none ao cap ⟨#[c]⟩ w).mono (by rintro e w' ⟨rfl, rfl⟩; exact ⟨rfl, Below.refl _ _⟩)
  | cons x r =>
    obtain ⟨b, off, rfl, hb, _⟩ := hcell 0 x rfl
    have e1 : ((x :: r).map fun t => (⟨t.toArray⟩ : ByteArray)).map (·.data.toList) = x :: r := by simp [Function.comp_def]
    have h := Tryz.strings_Join b off cap ((x :: r).map fun t => ⟨t.toArray⟩) ⟨#[c]⟩ w (fun j y hy => by
      rw [List.getElem?_map] at hy
      obtain ⟨u, hu, rfl⟩ := Option.map_eq_some_iff.1 hy
      obtain ⟨b', off', e1, _, e3⟩ := hcell j u hu
      cases e1
      exact e3) hb (by simp only [List.length_map]; omega) (by simpa using hcap) (by rw [e1]; show (Lib.join (x :: r) [c]).length ≤ _; omega)
    rw [e1] at h
    simpa using h
theorem joinB_any (v : Value) (l : List (List UInt8)) (w : World) (hv : SRow w v l) (hl : l.length ≤ 1000000) (hj : (Lib.join l [32]).length ≤ 1000000) :
    Calls Tryz.prog 15 #[v, .string ⟨#[32]⟩] w fun e w' => e = .returned (.string ⟨(Lib.join l [32]).toArray⟩) ∧ Below w.heap.size w w' := joinS_any 32 v l w hv hl hj
end Go.Proofs.YtgblgbhfgiajiaaGreatDoor
