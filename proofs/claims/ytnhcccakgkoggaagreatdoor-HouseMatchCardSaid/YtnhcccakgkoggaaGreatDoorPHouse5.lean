/- The names of a house, by names alone; the fact housed. No program in sight. -/
import Derived.Test.YtnhcccakgkoggaaGreatDoorPHouse4
import Derived.Test.YtnhcccakgkoggaaGreatDoorPMatch2
namespace Go.Proofs.YtnhcccakgkoggaaGreatDoor

def moveLs (n m : Bs) (L : List Bs) (l : List Bs) : List Bs := l.foldl (fun L s => insS (m ++ s.drop n.length) (delS s L)) L
theorem moveAll_L (n m : Bs) : ∀ (l : List Bs) (h : HouseC), (moveAll h n m l).L = moveLs n m h.L l
  | [], _ => rfl
  | s :: l, h => moveAll_L n m l (moveC h s (m ++ s.drop n.length))
/-- behind the names -/
def moreF (L : List Bs) (n m : Bs) : Nat ⊕ (Bs × Bs) := if m ∈ L then .inl 9 else if Lib.hasPrefix m (n ++ [47]) = true then .inl 6
      else if (hinsideF L n).any (fun s => decide (60 < s.length - n.length + m.length)) = true then .inl 4 else if 30 < L.length + (haboveF L m).length then .inl 12 else .inr (n, m)
theorem fact_create : hcreateF [inboxB] [97, 47, 98] = .inr [[97], [97, 47, 98]] := by decide +kernel
theorem fact_made : insAll [inboxB] [[97], [97, 47, 98]] = [inboxB, [97], [97, 47, 98]] := by decide +kernel
theorem fact_delete : hdeleteF [inboxB, [97], [97, 47, 98]] [97] = .inl 6 := by decide +kernel
theorem fact_get : hgetF [inboxB, [97], [97, 47, 98]] [97] = .inr [97] := by decide +kernel
theorem fact_name : hnameF [99] = some [99] := by decide +kernel
theorem fact_more : moreF [inboxB, [97], [97, 47, 98]] [97] [99] = .inr ([97], [99]) := by decide +kernel
theorem fact_above : haboveF [inboxB, [97], [97, 47, 98]] [99] = [] := by decide +kernel
theorem fact_moved : moveLs [97] [99] [inboxB, [97], [97, 47, 98]] (hinsideF [inboxB, [97], [97, 47, 98]] [97] ++ [[97]]) = [inboxB, [99], [99, 47, 98]] := by decide +kernel
theorem fact_yes : matB [99, 37] [99] = true := by decide +kernel
theorem fact_no : matB [37] [99, 47, 98] = false := by decide +kernel
end Go.Proofs.YtnhcccakgkoggaaGreatDoor
