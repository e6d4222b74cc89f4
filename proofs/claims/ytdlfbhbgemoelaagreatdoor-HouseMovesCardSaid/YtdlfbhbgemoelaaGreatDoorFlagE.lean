/- The walks over flags.Has, Print, Not: each returns what its plain function says. Conditions: flags.system lies as the program's text lays it. -/
import Derived.Test.YtdlfbhbgemoelaaGreatDoorFlagD
import Derived.Test.YtdlfbhbgemoelaaGreatDoorContS
import Derived.Lib.Join
namespace Go.Proofs.YtdlfbhbgemoelaaGreatDoor
open Go.RowKit Go.Shelf Go.Sort

/-- whether a flag is one of some -/
def hasF (l : List (List UInt8)) (s : List UInt8) : Bool := match nameF s with
  | .inl _ => false
  | .inr t => decide (t ∈ l)

/-- flags as they are written -/
def printFl (l : List (List UInt8)) : List UInt8 := [40] ++ Lib.join l [32] ++ [41]
theorem join_le : ∀ (l : List (List UInt8)), (∀ t ∈ l, t.length ≤ 100000) → (Lib.join l [32]).length ≤ l.length * 100001
  | [], _ => by simp [Lib.join]
  | [x], h => by
    have := h x (by simp)
    rw [Lib.join_one]
    simp only [List.length_cons, List.length_nil]; omega
  | x :: y :: r, h => by
    have h1 := h x (by simp)
    have ih := join_le (y :: r) (fun t ht => h t (List.mem_cons_of_mem _ ht))
    have e : Lib.join (x :: y :: r) [32] = x ++ [32] ++ Lib.join (y :: r) [32] := by simp [Lib.join, List.intercalate]
    rw [e, List.length_append, List.length_append]
    simp only [List.length_cons, List.length_nil] at ih ⊢
    omega
theorem join_any (v : Value) (l : List (List UInt8)) (w : World) (hv : SRow w v l) (hl : Short l) :
    Calls Tryz.prog 43 #[v, .string ⟨#[32]⟩] w fun e w' => e = .returned (.string ⟨(Lib.join l [32]).toArray⟩) ∧ Below w.heap.size w w' := by
  obtain ⟨ao, cap, rfl, hcap, _, hcell⟩ := hv
  have hj := join_le l hl.2
  have hll := hl.1
  have hmul : l.length * 100001 ≤ 100000 * 100001 := Nat.mul_le_mul_right _ hll
  cases l with
  | nil => exact (Tryz.strings_Join_none ao cap ⟨#[32]⟩ w).mono (by rintro e w' ⟨rfl, rfl⟩; exact ⟨rfl, Below.refl _ _⟩)
  | cons x r =>
    obtain ⟨b, off, rfl, hb, _⟩ := hcell 0 x rfl
    have e1 : ((x :: r).map fun t => (⟨t.toArray⟩ : ByteArray)).map (·.data.toList) = x :: r := by simp [Function.comp_def]
    have h := Tryz.strings_Join b off cap ((x :: r).map fun t => ⟨t.toArray⟩) ⟨#[32]⟩ w (fun j y hy => by
      rw [List.getElem?_map] at hy
      obtain ⟨u, hu, rfl⟩ := Option.map_eq_some_iff.1 hy
      obtain ⟨b', off', e1, _, e3⟩ := hcell j u hu
      cases e1
      exact e3) hb (by simp only [List.length_map]; omega) (by simpa using hcap) (by rw [e1]; show (Lib.join (x :: r) [32]).length ≤ _; omega)
    rw [e1] at h
    simpa using h
set_option maxRecDepth 100000 in
set_option maxHeartbeats 2000000 in
theorem printFl_any (v : Value) (l : List (List UInt8)) (w : World) (hv : SRow w v l) (hl : Short l) :
    Calls Tryz.prog 44 #[v] w fun e w' => e = .returned (.string ⟨(printFl l).toArray⟩) ∧ Below w.heap.size w w' := by
  have cJ := join_any v l w hv hl
  have hj := join_le l hl.2
  have hmul : l.length * 100001 ≤ 100000 * 100001 := Nat.mul_le_mul_right _ hl.1
  unfold printFl
  generalize Lib.join l [32] = J at *
  have hJ : J.length ≤ 10000100000 := by omega
  obtain ⟨q1, hq1⟩ : ∃ q1, q1 = [40] ++ J := ⟨_, rfl⟩
  obtain ⟨q2, hq2⟩ : ∃ q2, q2 = q1 ++ [41] := ⟨_, rfl⟩
  have a1 : (⟨#[40]⟩ : ByteArray) ++ ⟨J.toArray⟩ = ⟨q1.toArray⟩ := by rw [hq1]; exact text_cat _ _
  have a2 : (⟨q1.toArray⟩ : ByteArray) ++ ⟨#[41]⟩ = ⟨q2.toArray⟩ := by rw [hq2]; exact text_cat _ _
  rw [← hq1, ← hq2]
  have l1 : q1.length ≤ 10000100001 := by rw [hq1, List.length_append]; show 1 + _ ≤ _; omega
  have tJ := text_size J
  have t1 := text_size q1
  clear hq1 hq2 hj hmul hl hv
  go_enter Tryz.func44, Tryz.ntmps44
  go_wp2_with (go_at_call 43; with_reducible refine cJ.mono ?_; rintro e w1 ⟨rfl, h⟩)
  go_ret
  exact ⟨rfl, h⟩

/-- the first ones without the others -/
def notF (a b : List (List UInt8)) : List (List UInt8) := a.filter fun s => !decide (s ∈ b)
theorem SRow.belowAt {w w' : World} {B : Nat} {v : Value} {l : List (List UInt8)} (h : SRow w v l) (hB : w.heap.size ≤ B) (hb : Below B w w') : SRow w' v l := h.below (hb.mono hB)

end Go.Proofs.YtdlfbhbgemoelaaGreatDoor
