/- The walks over the statement's own fill and digits. No condition beyond those each names. -/
import Derived.Test.YtbhpjhkahjmhlaaDoorWireB
import Derived.Laws.OwnMore
namespace Go.Proofs.YtbhpjhkahjmhlaaDoor
open Go.RowKit Go.Shelf

theorem byte_info : (Tryd.prog.info? 5).map (fun i => (i.zero, i.size, i.bytes)) = some (some (.int .u8 0), 1, 1) := by kernel_rfl
def fillL (n k : Nat) : List UInt8 := List.replicate k 120 ++ List.replicate (n - k) 0
theorem fill_step (n k : Nat) (h : k < n) : (Lib.byteCells (fillL n k)).set k (.int .u8 120) = Lib.byteCells (fillL n (k + 1)) := by
  unfold fillL Lib.byteCells
  obtain ⟨m, rfl⟩ : ∃ m, n = k + (m + 1) := ⟨n - k - 1, by omega⟩
  rw [show k + (m + 1) - k = m + 1 by omega, show k + (m + 1) - (k + 1) = m by omega]
  rw [List.map_append, List.set_append_right _ _ (by simp), List.replicate_succ' (n := k)]
  simp [List.replicate_succ]
theorem fill_len (n k : Nat) (h : k ≤ n) : (fillL n k).length = n := by simp [fillL]; omega

set_option maxRecDepth 100000 in
set_option maxHeartbeats 2000000 in
theorem fill_any (n : Nat) (w : World) (hn : n ≤ 100000) :
    Calls Tryd.prog 4 #[.int .i64 (n : Int)] w fun e w' => e = .returned (.string ⟨(List.replicate n (120 : UInt8)).toArray⟩) ∧ Below w.heap.size w w' := by
  obtain ⟨i0, hi, hz0, hz1, hz2⟩ := info_parts byte_info
  obtain ⟨w1, hr, hown, hg⟩ := run_make_full (P := Tryd.prog) w w.heap.size 33 5 i0 (.int .u8 0) 1 Tryd.underlying33 hi hz0 hz1 .i64 .i64 n (by rw [hz2]; omega) (by unfold maxLen; omega) (Nat.le_refl _)
  have hb1 := (Below.refl w.heap.size w).grown hg (Nat.le_refl _) (fun k h => by cases h)
  have e0 : (madeCells (Value.int .u8 0).cells (n * 1)).toList = Lib.byteCells (fillL n 0) := by
    rw [Nat.mul_one]
    show (madeCells #[.int .u8 0] n).toList = _
    rw [toList_madeCells_one]
    simp [fillL, Lib.byteCells]
  rw [e0] at hown
  clear e0
  go_enter Tryd.func4, Tryd.ntmps4
  go_wp2_with fail
  go_loopg [4] n (fun g s4 wr => ∃ (k : Nat), k + g = n ∧ s4 = .int .i64 k ∧ wr.ownsRow w.heap.size 5 1 (.slice (some ⟨w.heap.size, 0, none⟩) n n) n (Lib.byteCells (fillL n k)) ∧ Below w.heap.size w wr)
  case atStart => exact ⟨0, by omega, rfl, hown, hb1⟩
  case round =>
    obtain ⟨k, hk, rfl, hown, hbr⟩ := hrel
    by_cases hlt : k < n
    · obtain ⟨g', rfl⟩ : ∃ g', gk = g' + 1 := ⟨gk - 1, by omega⟩
      obtain ⟨c, hc⟩ : ∃ c, (fillL n k)[k]? = some c := ⟨_, List.getElem?_eq_getElem (by rw [fill_len n k (by omega)]; exact hlt)⟩
      have c1 : wr.cell? ⟨w.heap.size, k, none⟩ = some (.int .u8 (c.toNat : Int)) := (hown.cellAt k (by omega)).trans (by simp [Lib.byteCells, hc])
      have f1 := hown.frozenAt k
      have o2 := (hown.stored k (.int .u8 120)).1
      rw [fill_step n k hlt] at o2
      have b2 := hbr.setCell (p := ⟨w.heap.size, k, none⟩) (Nat.le_refl _) (.int .u8 120)
      clear hc
      go_wp2_with fail
      go_roundg g'
      case measure => omega
      case rel => exact ⟨k + 1, by omega, by go_num, o2, b2⟩
    · have hkn : k = n := by omega
      have e1 : fillL n k = List.replicate n 120 := by rw [hkn]; simp [fillL]
      rw [e1] at hown
      have hro := rowAt_of_owns (xs := Lib.byteCells (List.replicate n (120 : UInt8))) hown
      have hcv := run_bytes_text (P := Tryd.prog) (l := List.replicate n 120) hro 33 9 5 Tryd.underlying33 Tryd.underlying5 Tryd.underlying9
      clear e1 hown hro
      go_wp2_with fail
      go_ret
      exact ⟨rfl, hbr⟩

def digL (n : Nat) : List UInt8 := if h : n < 10 then [UInt8.ofNat (48 + n)] else digL (n / 10) ++ [UInt8.ofNat (48 + n % 10)]
theorem digL_small {n : Nat} (h : n < 10) : digL n = [UInt8.ofNat (48 + n)] := by rw [digL, dif_pos h]
theorem digL_big {n : Nat} (h : ¬ n < 10) : digL n = digL (n / 10) ++ digL (n % 10) := by
  rw [digL, dif_neg h, digL_small (Nat.mod_lt _ (by omega))]
theorem digL_len : ∀ (n : Nat), (digL n).length ≤ n + 1 := by
  intro n
  induction n using Nat.strongRecOn with
  | ind n ih =>
    by_cases h : n < 10
    · rw [digL_small h]; simp
    · rw [digL_big h, List.length_append, digL_small (n := n % 10) (Nat.mod_lt _ (by omega))]
      have := ih (n / 10) (by omega)
      simp only [List.length_singleton]
      omega

set_option maxRecDepth 100000 in
set_option maxHeartbeats 2000000 in
theorem digits_small (n : Nat) (w : World) (hn : n < 10) :
    Calls Tryd.prog 5 #[.int .i64 (n : Int)] w fun e w' => e = .returned (.string ⟨(digL n).toArray⟩) ∧ Below w.heap.size w w' := by
  have ec : (convert 33 9 (.slice (some ⟨w.heap.size, 0, none⟩) 1 1)).run Tryd.prog (w.alloc (.cells #[.int .u8 (48 + (n : Int))] 5)) = .ok (.string ⟨(digL n).toArray⟩) (w.alloc (.cells #[.int .u8 (48 + (n : Int))] 5)) := by
    rw [digL_small hn]
    refine run_bytes_text (l := [UInt8.ofNat (48 + n)]) (Or.inr ⟨w.heap.size, 0, 1, rfl, by simp, ?_⟩) _ _ 5 Tryd.underlying33 Tryd.underlying5 Tryd.underlying9
    intro j u hj
    match j, hj with
    | 0, hj =>
      have e1 : (UInt8.ofNat (48 + n)).toNat = 48 + n := by simp; omega
      simp only [Lib.byteCells, List.map_cons, List.map_nil, List.getElem?_cons_zero, Option.some.injEq] at hj
      rw [← hj, e1, World.cell?_alloc_at _ _ _ _ rfl]
      simp
  have hz : (n : Int) < 10 := by omega
  go_enter Tryd.func5, Tryd.ntmps5
  go_wp2_with fail
  go_ret
  exact ⟨rfl, (Below.refl _ _).alloc (Nat.le_refl _) _⟩

set_option maxRecDepth 100000 in
set_option maxHeartbeats 2000000 in
theorem digits_any : ∀ (n : Nat) (w : World), n ≤ 100000 →
    Calls Tryd.prog 5 #[.int .i64 (n : Int)] w fun e w' => e = .returned (.string ⟨(digL n).toArray⟩) ∧ Below w.heap.size w w' := by
  intro n
  induction n using Nat.strongRecOn with
  | ind n ih =>
    intro w hn
    by_cases h : n < 10
    · exact digits_small n w h
    · have cA := fun W => ih (n / 10) (by omega) W (by omega)
      have cB := fun W => digits_small (n % 10) W (Nat.mod_lt _ (by omega))
      have q1 : ((n / 10 : Nat) : Int) = (n : Int) / 10 := by omega
      have q2 : ((n % 10 : Nat) : Int) = (n : Int) % 10 := by omega
      rw [q1] at cA
      rw [q2] at cB
      have l1 := digL_len (n / 10)
      have l2 := digL_len (n % 10)
      have l1b : (digL (n / 10)).length ≤ 100001 := by omega
      have l2b : (digL (n % 10)).length ≤ 100001 := by omega
      have hD := digL_big h
      have a1 : (⟨(digL (n / 10)).toArray⟩ : ByteArray) ++ ⟨(digL (n % 10)).toArray⟩ = ⟨(digL n).toArray⟩ := by rw [hD]; apply ByteArray.ext; simp
      have t1 := w_size (digL (n / 10))
      have t2 := w_size (digL (n % 10))
      have hz : ¬ ((n : Int) < 10) := by omega
      clear ih hD l1 l2
      generalize digL (n / 10) = A at *
      generalize digL (n % 10) = B at *
      generalize digL n = D at *
      go_enter Tryd.func5, Tryd.ntmps5
      go_wp2_with (first
        | (go_at_call 5; with_reducible refine (cA _).mono ?_; rintro e w1 ⟨rfl, hb1⟩)
        | (go_at_call 5; with_reducible refine (cB _).mono ?_; rintro e w2 ⟨rfl, hb2⟩))
      go_ret
      exact ⟨rfl, hb1.trans (hb2.mono hb1.size)⟩
end Go.Proofs.YtbhpjhkahjmhlaaDoor
