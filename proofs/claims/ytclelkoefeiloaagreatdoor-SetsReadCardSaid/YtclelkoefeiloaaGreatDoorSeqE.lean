/- The walk over seq.Of. No condition beyond those each names. -/
import Derived.Test.YtclelkoefeiloaaGreatDoorSeqC
import Derived.Test.YtclelkoefeiloaaGreatDoorHeldT
import Derived.Test.YtclelkoefeiloaaGreatDoorKept
import Derived.BigQuiet
namespace Go.Proofs.YtclelkoefeiloaaGreatDoor
open Go.RowKit Go.Shelf Go.Sort
set_option linter.unusedSimpArgs false

/-- a slice of numbers -/
def IRow (W : World) (v : Value) (l : List Int) : Prop := ∃ ao cap, v = .slice ao l.length cap ∧ l.length ≤ cap ∧ cap ≤ 9223372036854775807 ∧ ∀ (j : Nat) (n : Int), l[j]? = some n → ∃ b off, ao = some ⟨b, off, none⟩ ∧ b < W.heap.size ∧ W.cell? ⟨b, off + j, none⟩ = some (.int .i64 n)
theorem IRow.below {W W' : World} {v : Value} {l : List Int} (h : IRow W v l) (hb : Below W.heap.size W W') : IRow W' v l := by
  obtain ⟨ao, cap, h1, h2, h3, h4⟩ := h
  refine ⟨ao, cap, h1, h2, h3, fun j r hj => ?_⟩
  obtain ⟨b, off, e1, e2, e3⟩ := h4 j r hj
  exact ⟨b, off, e1, Nat.lt_of_lt_of_le e2 hb.size, (hb.cell (p := ⟨b, off + j, none⟩) e2).trans e3⟩
theorem rgCells_app (a b : List Rg) : rgCells (a ++ b) = rgCells a ++ rgCells b := by simp [rgCells]
theorem rgCells_set (a : List Rg) (p : Rg) (n : Int) : (rgCells (a ++ [p])).set (a.length * 2 + 1) (.int .i64 n) = rgCells (a ++ [(p.1, n)]) := by
  rw [rgCells_app, rgCells_app, List.set_append_right _ _ (by rw [rgCells_len]; omega), rgCells_len, show a.length * 2 + 1 - a.length * 2 = 1 by omega]
  rfl
theorem step_none (n : Int) : stepO [] n = [(n, n)] := rfl
theorem step_yes (a : List Rg) (p : Rg) (n : Int) (h : p.2 = n - 1) : stepO (a ++ [p]) n = a ++ [(p.1, n)] := by
  unfold stepO; simp [h]
theorem step_no (a : List Rg) (p : Rg) (n : Int) (h : p.2 ≠ n - 1) : stepO (a ++ [p]) n = a ++ [p] ++ [(n, n)] := by
  unfold stepO; simp [h]
set_option maxRecDepth 100000 in
set_option maxHeartbeats 8000000 in
theorem of_any (v : Value) (l : List Int) (w : World) (hv : IRow w v l) (hl : l.length ≤ 1000000) (hn : ∀ n ∈ l, 1 ≤ n ∧ n ≤ 9223372036854775807) :
    Calls Tryz.prog 14 #[v] w fun e w' => ∃ r, e = .returned r ∧ w'.ownsRow w.heap.size 47 2 r (ofS l).length (rgCells (ofS l)) ∧ Below w.heap.size w w' := by
  obtain ⟨ao, cap, rfl, hcap, hcm, hcell⟩ := hv
  have HC := Lib.hid hcell
  have HN := Lib.hid hn
  clear hcell hn hcap hcm
  go_enter Tryz.func14, Tryz.ntmps14
  go_wp2_with fail
  go_loopg [3, 5, 6, 9] l.length (fun g s3 s5 s6 s9 wr => ∃ (k : Nat) (out : List Rg) (ov : Value), k + g = l.length ∧ s9 = .int .i64 (k : Int) ∧ ov = s3 ∧ wr.ownsRow w.heap.size 47 2 ov out.length (rgCells out) ∧ Below w.heap.size w wr ∧ out.length ≤ k ∧ Hid (out = (l.take k).foldl stepO []))
  case atStart => exact ⟨0, [], _, by omega, rfl, rfl, World.ownsRow_nil _ _ _ _, Below.refl _ _, Nat.zero_le _, Lib.hid rfl⟩
  case round =>
    obtain ⟨k, out, ov, hk, rfl, rfl, hown, hbr, hok, HF⟩ := hrel
    by_cases hlt : k < l.length
    · obtain ⟨g', rfl⟩ : ∃ g', gk = g' + 1 := ⟨gk - 1, by omega⟩
      obtain ⟨n, hn⟩ : ∃ n, l[k]? = some n := ⟨l[k], List.getElem?_eq_getElem hlt⟩
      have hst : (l.take (k + 1)).foldl stepO [] = stepO out n := by rw [List.take_add_one, hn, List.foldl_append, ← HF.out]; rfl
      obtain ⟨hn1, hn2⟩ := HN.out n (List.mem_of_getElem? hn)
      obtain ⟨b, off, rfl, hb, c0⟩ := HC.out k n hn
      have d0 := (hbr.cell (p := ⟨b, off + k, none⟩) hb).trans c0
      have hltz : (k : Int) < (l.length : Int) := by omega
      clear hn c0
      rcases List.eq_nil_or_concat out with rfl | ⟨a, p, hap⟩
      · rw [step_none] at hst
        have HS := Lib.hid hst
        have HO := Lib.hid hown
        obtain ⟨oa, oc, rfl⟩ := owns_val hown
        have hl0 : ([] : List Rg).length = 0 := rfl
        clear hst hown
        go_wp2_with (at_builtin; go_must (refine wpList_app2 rfl _ _ 22 rfl 47 Tryz.underlying22 rng_info rfl w.heap.size _ _ _ _ rfl HO.out (.int .i64 n) (.int .i64 n) rfl rfl rfl ?c1 (by decide) ?c2 ?_))
        case c1 => simp
        case c2 => exact hbr.size
        intro v' w2 o2 g2 hv2
        have y2 := below_app2 hbr hbr.size HO.out g2
        go_wp2_with fail
        go_roundg g'
        case measure => omega
        case rel => exact ⟨k + 1, [(n, n)], _, by omega, by go_num, rfl, o2, y2, by simp, Lib.hid HS.out.symm⟩
      · obtain ⟨p1, p2⟩ := p
        rw [List.concat_eq_append] at hap
        subst hap
        have hlen : (a ++ [(p1, p2)]).length = a.length + 1 := by simp
        rw [hlen] at hown hok
        obtain ⟨g, oc, hh⟩ := ownsRow_succ hown
        subst hh
        have hgl := (hown.lt g rfl)
        obtain ⟨k1, k2⟩ := rgCells_at (a ++ [(p1, p2)]) a.length (p1, p2) (by simp)
        have q2 := hown.cellAt (a.length * 2 + 1) (by omega)
        rw [k2] at q2
        have q2' : wr.cell? ⟨g, a.length * 2 + 1, none⟩ = some (.int .i64 p2) := q2
        obtain ⟨fz, hoc⟩ : wr.frozen? ⟨g, a.length * 2 + 1, none⟩ = false ∧ a.length + 1 ≤ oc := by
          rcases hown.2 with ⟨h0, _⟩ | ⟨g', cap', cur, h1, h2, h3, h4, h5, h6, h7⟩
          · cases h0
          · cases h1
            exact ⟨Lib.frozen_of_heap h3 _, h4⟩
        have hm1 : ((a.length : Int) + 1 - 1) = (a.length : Int) := by omega
        have HO := Lib.hid hown
        clear k1 k2 q2 hown
        by_cases hp : p2 = n - 1
        · rw [step_yes a (p1, p2) n hp] at hst
          have HS := Lib.hid hst
          have hpb : (p2 == n - 1) = true := by simpa using hp
          clear hst
          have HO2 := Lib.hid (own_set (i := a.length * 2 + 1) HO.out (.int .i64 n))
          rw [rgCells_set] at HO2
          have y2 := hbr.setCell (p := ⟨g, a.length * 2 + 1, none⟩) hgl.1 (.int .i64 n)
          have HY := Lib.hid y2
          clear y2 hp
          go_wp2_with fail
          go_roundg g'
          case measure => omega
          case rel => exact ⟨k + 1, a ++ [(p1, n)], _, by omega, by go_num, rfl, by rw [show (a ++ [(p1, n)]).length = a.length + 1 by simp]; exact HO2.out, HY.out, by simp; omega, Lib.hid HS.out.symm⟩
        · rw [step_no a (p1, p2) n hp] at hst
          have HS := Lib.hid hst
          have hpb : (p2 == n - 1) = false := by simpa using hp
          have HOK := Lib.hid hok
          clear hst hp
          go_wp2_with (at_builtin; go_must (refine wpList_app2 rfl _ _ 22 rfl 47 Tryz.underlying22 rng_info rfl w.heap.size _ _ _ _ rfl HO.out (.int .i64 n) (.int .i64 n) rfl rfl rfl ?c1 (by decide) ?c2 ?_))
          case c1 => have := HOK.out; omega
          case c2 => exact hbr.size
          intro v' w2 o2 g2 hv2
          have y2 := below_app2 hbr hbr.size HO.out g2
          have o3 : w2.ownsRow w.heap.size 47 2 v' (a ++ [(p1, p2)] ++ [(n, n)]).length (rgCells (a ++ [(p1, p2)] ++ [(n, n)])) := by
            rw [← rgCells_snoc, show (a ++ [(p1, p2)] ++ [(n, n)]).length = a.length + 1 + 1 by simp]; exact o2
          have HO3 := Lib.hid o3
          clear o2 o3 g2 hm1 hgl fz q2' hpb
          go_wp2_with fail
          go_roundg g'
          case measure => omega
          case rel => exact ⟨k + 1, a ++ [(p1, p2)] ++ [(n, n)], _, by omega, by go_num, rfl, HO3.out, y2, by have := HOK.out; simp; omega, Lib.hid HS.out.symm⟩
    · have HF2 : Hid (out = ofS l) := Lib.hid (by have := HF.out; rwa [List.take_of_length_le (by omega)] at this)
      go_wp2_with fail
      go_ret
      exact ⟨_, rfl, by rw [← HF2.out]; exact hown, hbr⟩
end Go.Proofs.YtclelkoefeiloaaGreatDoor
