/- The walks over (*strings.Replacer).buildOnce and Replace. No condition beyond those each names. -/
import Derived.Test.YtclelkoefeiloaaGreatDoorRepE
namespace Go.Proofs.YtclelkoefeiloaaGreatDoor
open Go.RowKit Go.Shelf Go.Sort
set_option linter.unusedSimpArgs false

theorem RepC.spare {base B R i : Nat} {W : World} {ps : List (UInt8 × List UInt8)} {ks : List UInt8} {u : Value} {cu : Array Value} {fz : Nat × Nat} (h : RepC base B W ps ks) (hR : W.heap[R]? = some (.cells cu 90 fz)) : RepC base B (W.setCell ⟨R, i, none⟩ u) ps ks := by
  obtain ⟨cur, tv, h1, h2, h3, h4, h5⟩ := h
  have hk : ∀ (g : Nat) cu' t fz', W.heap[g]? = some (Obj.cells cu' t fz') → t ≠ 90 → (W.setCell ⟨R, i, none⟩ u).heap[g]? = W.heap[g]? := fun g cu' t fz' e hne => Below.heap_setCell W _ _ g (fun e2 => by
    have e2' : g = R := e2
    subst e2'
    rw [hR] at e
    cases e
    exact hne rfl)
  refine ⟨cur, tv, (hk _ _ _ _ h1 (by decide)).trans h1, h2, h3, owns_keep h4 (fun g hg => ?_), fun c => RepV.keep (h5 c) (by rw [set_size]; exact Nat.le_refl _) (fun g c fz e => hk _ _ _ _ e (by decide))⟩
  obtain ⟨cur', e⟩ := owns_tag h4 hg
  exact hk _ _ _ _ e (by decide)
theorem set5_3 {w : World} {U : Nat} {a b c d e u : Value} {t : TypeId} (h : w.heap[U]? = some (.cells #[a, b, c, d, e] t (0, 0))) : (w.setCell ⟨U, 3, none⟩ u).heap[U]? = some (.cells #[a, b, c, u, e] t (0, 0)) := by
  simp only [World.setCell, Array.getElem?_modify, if_pos, h]
  simp
theorem set5_4 {w : World} {U : Nat} {a b c d e u : Value} {t : TypeId} (h : w.heap[U]? = some (.cells #[a, b, c, d, e] t (0, 0))) : (w.setCell ⟨U, 4, none⟩ u).heap[U]? = some (.cells #[a, b, c, d, u] t (0, 0)) := by
  simp only [World.setCell, Array.getElem?_modify, if_pos, h]
  simp
set_option maxRecDepth 100000 in
set_option maxHeartbeats 4000000 in
theorem buildOnce_any (ps : List (UInt8 × List UInt8)) (R : Nat) (a b c d sv : Value) (N : Nat) (w : World) (hR : w.heap[R]? = some (.cells #[a, b, c, d, sv] 90 (0, 0))) (hN : N ≤ R) (hsv : SRow w sv (newsL ps)) (hp2 : 2 ≤ ps.length) (hp : ps.length ≤ 10) (hn : ∀ p ∈ ps, p.2.length ≠ 1 ∧ p.2.length ≤ 100) (hd : (ps.map (·.1)).Nodup) :
    Calls Tryz.prog 44 #[.pointer (some ⟨R, 0, none⟩)] w fun e w' => e = .returned (.tuple #[]) ∧ ∃ B, w'.heap[R]? = some (.cells #[a, b, c, .iface 149 (.pointer (some ⟨B, 0, none⟩)), .slice none 0 0] 90 (0, 0)) ∧ w.heap.size ≤ B ∧ RepC w.heap.size B w' ps (ps.map (·.1)).reverse ∧ Below N w w' := by
  have hRl := (Array.getElem?_eq_some_iff.1 hR).1
  have h4 : w.cell? ⟨R, 4, none⟩ = some sv := by rw [Lib.cell_of_heap hR]; rfl
  have cB := build_any ps R sv w h4 hsv hp2 hp hn hd
  go_enter Tryz.func44, Tryz.ntmps44
  go_upto_region 1 with (go_at_call 61; refine cB.mono ?_; rintro e w1 ⟨B, rfl, hB, hC, y⟩; have hR1 := (y.block R hRl).trans hR; have c3 : w1.cell? ⟨R, 3, none⟩ = some d := (by rw [Lib.cell_of_heap hR1]; rfl); have f3 : w1.frozen? ⟨R, 3, none⟩ = false := (by simp [World.frozen?, hR1]))
  have hC2 := hC.spare (i := 3) (u := .iface 149 (.pointer (some ⟨B, 0, none⟩))) hR1
  have hR2 := set5_3 (u := .iface 149 (.pointer (some ⟨B, 0, none⟩))) hR1
  have y2 := (y.mono (Nat.le_of_lt (Nat.lt_of_le_of_lt hN hRl))).setCell (p := ⟨R, 3, none⟩) hN (.iface 149 (.pointer (some ⟨B, 0, none⟩)))
  generalize w1.setCell ⟨R, 3, none⟩ (.iface 149 (.pointer (some ⟨B, 0, none⟩))) = w2 at hC2 hR2 y2 ⊢
  have c4 : w2.cell? ⟨R, 4, none⟩ = some sv := (by rw [Lib.cell_of_heap hR2]; rfl)
  have f4 : w2.frozen? ⟨R, 4, none⟩ = false := (by simp [World.frozen?, hR2])
  have hC3 := hC2.spare (i := 4) (u := .slice none 0 0) hR2
  have hR3 := set5_4 (u := .slice none 0 0) hR2
  have y3 := y2.setCell (p := ⟨R, 4, none⟩) hN (.slice none 0 0)
  go_wp2_with fail
  go_end0
  exact ⟨rfl, B, hR3, hB, hC3, y3⟩
end Go.Proofs.YtclelkoefeiloaaGreatDoor
