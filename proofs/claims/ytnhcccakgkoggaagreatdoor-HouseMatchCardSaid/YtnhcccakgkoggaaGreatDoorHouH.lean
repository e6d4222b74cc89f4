/- The walk over a house's Rename where it is refused. Conditions: utf8's two tables and bytealg.MaxLen lie as the program's text lays them. -/
import Derived.Test.YtnhcccakgkoggaaGreatDoorHouG
import Derived.Test.YtnhcccakgkoggaaGreatDoorPHouse4
namespace Go.Proofs.YtnhcccakgkoggaaGreatDoor
open Go.RowKit Go.Shelf Go.Sort Go.Maps

/-- would a name be too long? -/
def longQ (n m s : Bs) : Bool := decide ((60 : Int) < wrap64 (wrap64 ((s.length : Int) - (n.length : Int)) + (m.length : Int)))
theorem longQ_is {n m s : Bs} (hn : n.length ≤ s.length) (hs : s.length ≤ 1000000) (hm : m.length ≤ 1000000) : longQ n m s = decide (60 < s.length - n.length + m.length) := by
  unfold longQ
  rw [IntWalk.wrap64_in ((s.length : Int) - (n.length : Int)) (by omega), IntWalk.wrap64_in _ (by omega), decide_eq_decide]
  omega
set_option maxRecDepth 100000 in
set_option maxHeartbeats 2000000 in
theorem rename1_any (n m s : Bs) (X Y : Nat) (W : World) (hx : W.cell? ⟨X, 0, none⟩ = some (.string ⟨n.toArray⟩)) (hy : W.cell? ⟨Y, 0, none⟩ = some (.string ⟨m.toArray⟩)) :
    Calls Tryz.prog 30 #[.string ⟨s.toArray⟩, .pointer (some ⟨X, 0, none⟩), .pointer (some ⟨Y, 0, none⟩)] W fun e w' => e = .returned (.bool (longQ n m s)) ∧ W = w' := by
  have ts := text_size s
  have tn := text_size n
  have tm := text_size m
  unfold longQ
  obtain ⟨z, hz⟩ : ∃ z, wrap64 (wrap64 ((s.length : Int) - (n.length : Int)) + (m.length : Int)) = z := ⟨_, rfl⟩
  rw [hz]
  go_enter Tryz.func30, Tryz.ntmps30
  go_wp2_with fail
  go_ret
  exact ⟨rfl, rfl⟩
end Go.Proofs.YtnhcccakgkoggaaGreatDoor
