/- The walk over (*strings.Replacer).Replace of a new replacer. No condition beyond those it names. -/
import Derived.Test.YtclelkoefeiloaaGreatDoorRepF
namespace Go.Proofs.YtclelkoefeiloaaGreatDoor
open Go.RowKit Go.Shelf Go.Sort
set_option linter.unusedSimpArgs false

theorem set5_1 {w : World} {U : Nat} {a b c d e u : Value} {t : TypeId} (h : w.heap[U]? = some (.cells #[a, b, c, d, e] t (0, 0))) : (w.setCell ⟨U, 1, none⟩ u).heap[U]? = some (.cells #[a, u, c, d, e] t (0, 0)) := by
  simp only [World.setCell, Array.getElem?_modify, if_pos, h]
  simp
theorem set5_0 {w : World} {U : Nat} {a b c d e u : Value} {t : TypeId} (h : w.heap[U]? = some (.cells #[a, b, c, d, e] t (0, 0))) : (w.setCell ⟨U, 0, none⟩ u).heap[U]? = some (.cells #[u, b, c, d, e] t (0, 0)) := by
  simp only [World.setCell, Array.getElem?_modify, if_pos, h]
  simp
theorem srow_owns {W : World} {base : Nat} {v : Value} {l : List (List UInt8)} (h : W.ownsRow base 9 1 v l.length (l.map encStr)) : SRow W v l := by
  have h0 := h
  rcases h.2 with ⟨rfl, h1⟩ | ⟨g, cap, cur, rfl, a1, a2, a3, a4, _⟩
  · exact ⟨none, 0, by rw [h1], by omega, ⟨by decide, fun _ => rfl⟩, fun j t hj => by rw [List.length_eq_zero_iff.1 h1] at hj; simp at hj⟩
  · refine ⟨some ⟨g, 0, none⟩, cap, rfl, a3, ⟨by unfold maxLen at a4; exact a4, fun e => by cases e⟩, fun j t hj => ?_⟩
    obtain ⟨g', cap', e, hg, hc⟩ := owns_get h0 (j := j) (u := .string ⟨t.toArray⟩) (by rw [List.getElem?_map, hj]; rfl)
    cases e
    exact ⟨g, 0, rfl, hg, by rw [Nat.zero_add]; exact hc⟩
theorem once_at {R : Nat} {w : World} {s : Int} {c d e : Value} (h : w.heap[R]? = some (.cells #[.int .u32 0, .int .i32 s, c, d, e] 90 (0, 0))) : OnceW R 0 s w :=
  ⟨by rw [Lib.cell_of_heap h]; rfl, by rw [Lib.cell_of_heap h]; rfl, by simp [World.frozen?, h], by simp [World.frozen?, h]⟩
theorem rep_method (B : Nat) (W : World) : (method 365 149 (.pointer (some ⟨B, 0, none⟩)) "Replace").run Tryz.prog W = .ok (167, .pointer (some ⟨B, 0, none⟩)) W := by kernel_rfl
set_option maxRecDepth 100000 in
set_option maxHeartbeats 4000000 in
theorem replace_any (ps : List (UInt8 × List UInt8)) (S : List UInt8) (R N : Nat) (sv : Value) (w : World) (hR : w.heap[R]? = some (.cells #[.int .u32 0, .int .i32 0, .int .u32 0, .nilIface, sv] 90 (0, 0))) (hN : N ≤ R) (ho : w.ownsRow N 9 1 sv (newsL ps).length ((newsL ps).map encStr)) (hp2 : 2 ≤ ps.length) (hp : ps.length ≤ 10) (hn : ∀ p ∈ ps, p.2.length ≠ 1 ∧ p.2.length ≤ 100) (hd : (ps.map (·.1)).Nodup) (hS : S.length ≤ 100000) :
    Calls Tryz.prog 27 #[.pointer (some ⟨R, 0, none⟩), .string ⟨S.toArray⟩] w fun e w' => e = .returned (.string ⟨(repF ps S).toArray⟩) ∧ Below N w w' := by
  have hRl := (Array.getElem?_eq_some_iff.1 hR).1
  have hR1 := set5_1 (u := .int .i32 1) hR
  have o1 : (w.setCell ⟨R, 1, none⟩ (.int .i32 1)).ownsRow N 9 1 sv (newsL ps).length ((newsL ps).map encStr) := owns_keep ho (fun g hg => Below.heap_setCell w _ _ g (fun e2 => by
    have e2' : g = R := e2
    subst e2'
    obtain ⟨cur, e3⟩ := owns_tag ho hg
    rw [hR] at e3
    cases e3))
  have y1 := (Below.refl N w).setCell (p := ⟨R, 1, none⟩) hN (.int .i32 1)
  have cO := buildOnce_any ps R _ _ _ _ sv N _ hR1 hN (srow_owns o1) hp2 hp hn hd
  have cD := do_any R w (fun w2 => ∃ B, w2.heap[R]? = some (.cells #[.int .u32 0, .int .i32 1, .int .u32 0, .iface 149 (.pointer (some ⟨B, 0, none⟩)), .slice none 0 0] 90 (0, 0)) ∧ (∃ base, RepC base B w2 ps (ps.map (·.1)).reverse) ∧ Below N w w2) (once_at hR) (cO.mono (by
    rintro e w' ⟨rfl, B, h1, h2, h3, h4⟩
    exact ⟨rfl, ⟨B, h1, ⟨_, h3⟩, y1.trans h4⟩, once_at h1⟩))
  go_enter Tryz.func27, Tryz.ntmps27
  go_upto_region 2 with (go_at_call 43; refine cD.mono ?_; rintro e w9 ⟨rfl, w2, ⟨B, h2, ⟨base, hC⟩, y2⟩, rfl⟩)
  have k1 := set5_0 (u := .int .u32 1) h2
  have k2 := set5_1 (u := .int .i32 0) k1
  have q1 := hC.spare (i := 0) (u := .int .u32 1) h2
  have q2 := q1.spare (i := 1) (u := .int .i32 0) k1
  have q3 := q2.keep ((Below.refl _ _).drew)
  have y3 := ((y2.setCell (p := ⟨R, 0, none⟩) hN (.int .u32 1)).setCell (p := ⟨R, 1, none⟩) hN (.int .i32 0)).drew
  have k3 : (((w2.setCell ⟨R, 0, none⟩ (.int .u32 1)).setCell ⟨R, 1, none⟩ (.int .i32 0)).drew).heap[R]? = _ := k2
  generalize ((w2.setCell ⟨R, 0, none⟩ (.int .u32 1)).setCell ⟨R, 1, none⟩ (.int .i32 0)).drew = w3 at k3 q3 y3 ⊢
  have c3 : w3.cell? ⟨R, 3, none⟩ = some (.iface 149 (.pointer (some ⟨B, 0, none⟩))) := by rw [Lib.cell_of_heap k3]; rfl
  have hm : ∀ W, (method 365 149 (.pointer (some ⟨B, 0, none⟩)) "Replace").run Tryz.prog W = .ok (167, .pointer (some ⟨B, 0, none⟩)) W := fun W => rep_method B W
  have cR := repl_any ps S base B w3 q3 hd hp (fun p hp => (hn p hp).2) hS
  go_wp2_with (go_at_call 167; refine cR.mono ?_; rintro e w4 ⟨rfl, h4⟩)
  go_ret
  exact ⟨rfl, y3.trans (h4.mono (Nat.le_of_lt (Nat.lt_of_le_of_lt hN (Nat.lt_of_lt_of_le hRl (by simpa using y3.size)))))⟩
end Go.Proofs.YtclelkoefeiloaaGreatDoor
