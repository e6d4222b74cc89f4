/- append of a row of texts to a row that is owned. No condition beyond those it names. -/
import Derived.Test.YtdlfbhbgemoelaaGreatDoorSRow
import Derived.Deep.AppendLies
namespace Go.Proofs.YtdlfbhbgemoelaaGreatDoor
open Go.RowKit Go.Shelf Go.Sort

section
variable {P : Program} {ops : Array Oper} {rest : List Oper} {o : Oper} {a : Act} {Q : Exit → Act → World → Prop}
/-- append(v, x...), v owned, x a row of texts -/
theorem wpList_appS (hgd : o.guard = none) (s x : Operand) (t : TypeId) (ho : o.op = .call { callee := .builtin .append, args := #[s, x], argTypes := #[t, t] })
    (e : TypeId) {z : Value} {bytes : Nat} (ht : P.underlying t = some (.slice e)) (hinfo : (P.info? e).map (fun i => (i.zero, i.size, i.bytes)) = some (some z, 1, bytes)) (hzs : z.cells.size = 1)
    (base : Nat) (v : Value) (xs : List (List UInt8)) (w : World) (hs : a.eval s = v) (hown : w.ownsRow base e 1 v xs.length (xs.map encStr))
    (ao : Option Addr) (l : List (List UInt8)) (cap : Nat) (hx : a.eval x = .slice ao l.length cap) (hnone : ao = none → cap = 0) (hcell : ∀ (j : Nat) (t : List UInt8), l[j]? = some t → ∃ b off, ao = some ⟨b, off, none⟩ ∧ b < w.heap.size ∧ w.cell? ⟨b, off + j, none⟩ = some (.string ⟨t.toArray⟩))
    (hn : xs.length + l.length ≤ 4294967296) (hb : bytes ≤ 64) (hbase : base ≤ w.heap.size)
    (h : ∀ v' w', w'.ownsRow base e 1 v' (xs ++ l).length ((xs ++ l).map encStr) → w.grownBy w' v.ownBlock → wpList P ops Q rest (a.put o.dst v') w') : wpList P ops Q (o :: rest) a w := by
  obtain ⟨i0, hi, hz0, hz1, hz2⟩ := info_parts hinfo
  cases l with
  | nil =>
    cases ao with
    | none =>
      refine wpList_append_own_none hgd s x t ho base e i0 1 ht hi v xs.length (xs.map encStr) hs hown (by rw [hx, hnone rfl]; rfl) (h v w (by simpa using hown) (World.grownBy.refl _ _))
    | some p =>
      refine wpList_append_own _ hgd s x t ho base e i0 z 1 bytes ht hi hz0 hz1 hz2 hzs (by decide) v xs.length (xs.map encStr) hs hown p 0 cap [] (by simpa using hx) rfl (fun j u hj => by simp at hj) (fun u hu => by cases hu) (by unfold maxLen; simp only [List.length_nil] at hn; omega) (by simp only [List.length_nil] at hn; have : (xs.length + 0) * bytes ≤ 4294967296 * 64 := Nat.mul_le_mul (by omega) hb; omega) hbase ?_
      intro v' w' k1 k2 _
      exact h v' w' (by simpa using k1) k2
  | cons y r =>
    obtain ⟨b, off, rfl, _, _⟩ := hcell 0 y rfl
    refine wpList_append_own _ hgd s x t ho base e i0 z 1 bytes ht hi hz0 hz1 hz2 hzs (by decide) v xs.length (xs.map encStr) hs hown ⟨b, off, none⟩ (y :: r).length cap ((y :: r).map encStr) hx (by simp) ?_ ?_ (by unfold maxLen; omega) (by have : (xs.length + (y :: r).length) * bytes ≤ 4294967296 * 64 := Nat.mul_le_mul hn hb; omega) hbase ?_
    · intro j u hj
      rw [List.getElem?_map] at hj
      obtain ⟨t', ht', rfl⟩ := Option.map_eq_some_iff.1 hj
      obtain ⟨b', off', e1, _, e3⟩ := hcell j t' ht'
      cases e1
      rw [add_pl]
      exact e3
    · intro u hu
      obtain ⟨t', _, rfl⟩ := List.mem_map.1 hu
      rfl
    · intro v' w' k1 k2 _
      refine h v' w' ?_ k2
      rw [List.length_append, List.map_append]
      exact k1
end

end Go.Proofs.YtdlfbhbgemoelaaGreatDoor
