/- An append of one element of two cells to a row that is owned. No program here; no condition beyond those each names. -/
import Derived.Test.YtgblgbhfgiajiaaGreatDoorKit2
namespace Go.Proofs.YtgblgbhfgiajiaaGreatDoor
open Go.RowKit

section
variable {P : Program} {ops : Array Oper} {rest : List Oper} {o : Oper} {a : Act} {Q : Exit → Act → World → Prop}
/-- append(v, x), v owned, x of two cells in a new block -/
theorem wpList_app2 (hgd : o.guard = none) (s x : Operand) (t : TypeId) (ho : o.op = .call { callee := .builtin .append, args := #[s, x], argTypes := #[t, t] })
    (e : TypeId) {z : Value} {bytes : Nat} (ht : P.underlying t = some (.slice e)) (hinfo : (P.info? e).map (fun i => (i.zero, i.size, i.bytes)) = some (some z, 2, bytes)) (hzs : z.cells.size = 2)
    (base : Nat) (v : Value) (n : Nat) (xs : List Value) (w : World) (hs : a.eval s = v) (hown : w.ownsRow base e 2 v n xs)
    (y y2 : Value) (hx : a.eval x = .slice (some ⟨w.heap.size, 0, none⟩) 1 1) (h1 : y.oneCell' = true) (h2 : y2.oneCell' = true)
    (hn : n + 1 ≤ 4294967296) (hb : bytes ≤ 64) (hbase : base ≤ w.heap.size)
    (h : ∀ v' w', w'.ownsRow base e 2 v' (n + 1) (xs ++ [y, y2]) → (w.alloc (.cells #[y, y2] e)).grownBy w' v.ownBlock → v' ≠ .slice none 0 0 → wpList P ops Q rest (a.put o.dst v') w') : wpList P ops Q (o :: rest) a (w.alloc (.cells #[y, y2] e)) := by
  obtain ⟨i0, hi, hz0, hz1, hz2⟩ := info_parts hinfo
  refine wpList_append_own _ hgd s x t ho base e i0 z 2 bytes ht hi hz0 hz1 hz2 hzs (by decide) v n xs hs (hown.alloc _) ⟨w.heap.size, 0, none⟩ 1 1 [y, y2] hx rfl ?_ ?_ ?_ ?_ ?_ ?_
  · intro j u hj
    match j, hj with
    | 0, hj => simp at hj; subst hj; simp [Addr.add]
    | 1, hj => simp at hj; subst hj; simp [Addr.add]
  · intro u hu; simp at hu; rcases hu with rfl | rfl
    · exact h1
    · exact h2
  · unfold maxLen; omega
  · have : (n + 1) * bytes ≤ 4294967296 * 64 := Nat.mul_le_mul hn hb
    omega
  · simp; omega
  · intro v' w' k1 k2 k3
    refine h v' w' k1 k2 ?_
    intro hv
    have := (k3.1 hv).2
    omega
end
theorem below_app2 {B : Nat} {a w w' : World} {e : TypeId} {sz n : Nat} {xs : List Value} {v : Value} {o : Obj} (h : Below B a w) (hB : B ≤ w.heap.size) (hown : w.ownsRow B e sz v n xs) (hg : (w.alloc o).grownBy w' v.ownBlock) : Below B a w' :=
  (h.alloc hB _).grown hg (by simp; omega) (fun k hk => (hown.lt k hk).1)
theorem owns_below {w w' : World} {B : Nat} {e : TypeId} {sz : Nat} {v : Value} {n : Nat} {xs : List Value} (h : w.ownsRow B e sz v n xs) (hb : Below w.heap.size w w') : w'.ownsRow B e sz v n xs :=
  owns_same h (fun _ _ hk _ => below_same hb hk)

end Go.Proofs.YtgblgbhfgiajiaaGreatDoor
