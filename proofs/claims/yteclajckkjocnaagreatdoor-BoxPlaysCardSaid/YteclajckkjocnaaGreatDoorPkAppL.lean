/- append of a row of letters to a row that is owned. No condition beyond those it names. -/
import Derived.Laws.AppendOwnNone
import Derived.Laws.OwnMore
import Derived.Test.YteclajckkjocnaaGreatDoorPkBoxF
namespace Go.Proofs.YteclajckkjocnaaGreatDoor
open Go.RowKit Go.Shelf Go.Sort
set_option linter.unusedSimpArgs false
theorem let_z : (Value.agg #[.int .i64 0, .slice none 0 0, .int .i64 0, .string ByteArray.empty]).cells.size = 4 := by decide
section
variable {ops : Array Oper} {rest : List Oper} {o : Oper} {a : Act} {Q : Exit → Act → World → Prop}
/-- append(v, x...), v owned, x a row of letters -/
theorem wpList_appL (hgd : o.guard = none) (s x : Operand) (ho : o.op = .call { callee := .builtin .append, args := #[s, x], argTypes := #[22, 22] })
    (base : Nat) (v : Value) (xs : List (Let × Value)) (w : World) (hs : a.eval s = v) (hown : w.ownsRow base 51 4 v xs.length (cellsL xs))
    (ao : Option Addr) (zs : List (Let × Value)) (cap : Nat) (hx : a.eval x = .slice ao zs.length cap) (hz : ZRow w (.slice ao zs.length cap) zs)
    (hn : xs.length + zs.length ≤ 1000000) (hbase : base ≤ w.heap.size)
    (h : ∀ v' w', w'.ownsRow base 51 4 v' (xs ++ zs).length (cellsL (xs ++ zs)) → w.grownBy w' v.ownBlock → wpList Tryz.prog ops Q rest (a.put o.dst v') w') : wpList Tryz.prog ops Q (o :: rest) a w := by
  obtain ⟨i0, hi, hz0, hz1, hz2⟩ := info_parts let_info
  obtain ⟨ao', cap', e, hcap, ⟨hcm, hnone⟩, hfl, hcell⟩ := hz
  cases e
  have h1 : ∀ u ∈ cellsL zs, u.oneCell' = true := cellsL_one (fun z hz => ⟨w, hfl z hz⟩)
  cases ao with
  | none =>
    have hl : zs = [] := List.eq_nil_of_length_eq_zero (by have := hnone rfl; omega)
    subst hl
    refine wpList_append_own_none hgd s x 22 ho base 51 i0 4 Tryz.underlying22 hi v xs.length (cellsL xs) hs hown (by rw [hx, hnone rfl]; rfl) (h v w (by simpa using hown) (World.grownBy.refl _ _))
  | some p =>
    have hp : p = ⟨p.block, p.off, none⟩ ∨ zs = [] := by
      cases zs with
      | nil => exact Or.inr rfl
      | cons z r =>
        obtain ⟨b, off, e1, _⟩ := hcell 0 _ rfl
        cases e1; exact Or.inl rfl
    refine wpList_append_own _ hgd s x 22 ho base 51 i0 _ 4 56 Tryz.underlying22 hi hz0 hz1 hz2 let_z (by decide) v xs.length (cellsL xs) hs hown p zs.length cap (cellsL zs) hx (cellsL_len zs) ?_ h1 (by unfold maxLen; omega) (by omega) hbase ?_
    · intro j u hj
      obtain ⟨b, off, e1, _, e3⟩ := hcell j u hj
      cases e1
      rw [add_pl]
      exact e3
    · intro v' w' k1 k2 _
      refine h v' w' ?_ k2
      rw [List.length_append, cellsL_app]
      exact k1
end
end Go.Proofs.YteclajckkjocnaaGreatDoor
