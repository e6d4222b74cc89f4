/- The walk over mime's Find: it returns what its plain function says. No condition. -/
import Derived.Test.YtmjfhhladicacaaGreatDoorMimeE
namespace Go.Proofs.YtmjfhhladicacaaGreatDoor
open Go.RowKit Go.Shelf

/-- what Find returns -/
def FindRes (o : Option PT) (v : Value) (W : World) (ok : Nat → Prop) : Prop :=
  match o with
  | none => v = .tuple #[.agg zeroC, .bool false]
  | some q => ∃ aq cq, v = .tuple #[aggP q aq cq, .bool true] ∧ Reads W ok (.slice aq q.ps.length cq) q.ps
theorem fine_len {g : Nat} {p : PT} (h : Fine g p) : p.ps.length ≤ 30 := by
  cases g with
  | zero => exact h.elim
  | succ g => exact h.2.2.2.2.1
theorem fine_kid {g : Nat} {p q : PT} (h : Fine g p) (hq : q ∈ p.ps) : ∃ g', Fine g' q := by
  cases g with
  | zero => exact h.elim
  | succ g => exact ⟨g, h.2.2.2.2.2 q hq⟩
theorem find_nil (p : PT) : findF p [] = some p := by unfold findF; rfl
theorem find_one {p : PT} (h : p.ps.length = 0) : findF p [1] = some p := by unfold findF; rw [if_pos ⟨h, rfl, rfl⟩]
theorem find_out {p : PT} {n : Int} {r : List Int} (h : ¬(p.ps.length = 0 ∧ n = 1 ∧ r = [])) (h2 : n < 1 ∨ (p.ps.length : Int) < n) : findF p (n :: r) = none := by
  unfold findF; rw [if_neg h, if_pos h2]
theorem find_in {p q : PT} {m : Nat} {r : List Int} (hq : p.ps[m]? = some q) : findF p (((m : Int) + 1) :: r) = findF q r := by
  have hm : m < p.ps.length := (List.getElem?_eq_some_iff.1 hq).1
  conv => lhs; unfold findF
  rw [if_neg (by omega), if_neg (by omega), show ((m : Int) + 1 - 1).toNat = m by omega, hq]

set_option maxRecDepth 100000 in
set_option maxHeartbeats 8000000 in
theorem find_num (p : PT) (ao : Option Addr) (cap : Nat) (an : Option Addr) (capn : Nat) (path : List Int) (w : World) (ok : Nat → Prop) (hp : Reads w ok (.slice ao p.ps.length cap) p.ps) (gp : Nat) (hfp : Fine gp p) (han : ∀ (j : Nat) (n : Int), path[j]? = some n → ∃ b off, an = some ⟨b, off, none⟩ ∧ b < w.heap.size ∧ w.cell? ⟨b, off + j, none⟩ = some (.int .i64 n)) (hpl : path.length ≤ 1000000) :
    Calls Tryz.prog 9 #[aggP p ao cap, .slice an path.length capn] w fun e w' => ∃ v, e = .returned v ∧ FindRes (findF p path) v w' ok ∧ Below w.heap.size w w' := by
  have HN := Lib.hid han
  clear han
  obtain ⟨R, hR⟩ : ∃ R, findF p path = R := ⟨_, rfl⟩
  rw [hR]
  have HR := Lib.hid hR
  have HP := Lib.hid hp
  clear hR hp
  go_enter Tryz.func9, Tryz.ntmps9
  go_wp2_with fail
  go_loopg [10] path.length (fun g10 s10 wr => ∃ (k : Nat) (cur : PT) (aj : Option Addr) (cj : Nat), k + g10 = path.length ∧ s10 = .int .i64 (k : Int) ∧ cur.ps.length ≤ 30 ∧ Below w.heap.size w wr ∧
    wr.heap[w.heap.size]? = some (.cells #[.string ⟨cur.ty.toArray⟩, .string ⟨cur.bd.toArray⟩, .int .i64 (cur.fr : Int), .int .i64 (cur.to : Int), .int .i64 (cur.ln : Int), .slice aj cur.ps.length cj] 25 (0, 0)) ∧
    wr.heap[w.heap.size + 1]? = some (.cells zeroC 25 (0, 0)) ∧ Hid (Reads w ok (.slice aj cur.ps.length cj) cur.ps ∧ findF cur (path.drop k) = R ∧ ∃ gc, Fine gc cur))
  case atStart => 
    exact ⟨0, p, ao, cap, by omega, rfl, fine_len hfp, ((Below.refl _ _).alloc (Nat.le_refl _) _).alloc (by rw [alloc_size]; omega) _, alloc_at (World.heap_alloc_new _ _), by rw [show w.heap.size + 1 = (w.alloc _).heap.size from (alloc_size w (.cells #[.string ⟨p.ty.toArray⟩, .string ⟨p.bd.toArray⟩, .int .i64 (p.fr : Int), .int .i64 (p.to : Int), .int .i64 (p.ln : Int), .slice ao p.ps.length cap] 25)).symm]; exact World.heap_alloc_new _ _, HP.out, HR.out, gp, hfp⟩
  case round =>
    obtain ⟨k, cur, aj, cj, hk, rfl, hcl, hbr, hbx, hbz, HK⟩ := hrel
    have x0 := (six_cells hbx).1
    have x1 := (six_cells hbx).2.1
    have x2 := (six_cells hbx).2.2.1
    have x3 := (six_cells hbx).2.2.2.1
    have x4 := (six_cells hbx).2.2.2.2.1
    have x5 := (six_cells hbx).2.2.2.2.2
    have z0 := (six_cells hbz).1
    have z1 := (six_cells hbz).2.1
    have z2 := (six_cells hbz).2.2.1
    have z3 := (six_cells hbz).2.2.2.1
    have z4 := (six_cells hbz).2.2.2.2.1
    have z5 := (six_cells hbz).2.2.2.2.2
    have fx := Lib.frozen_of_heap hbx
    have fz := Lib.frozen_of_heap hbz
    by_cases hlt : k < path.length
    · obtain ⟨g', rfl⟩ : ∃ g', gk = g' + 1 := ⟨gk - 1, by omega⟩
      obtain ⟨n, hn⟩ : ∃ n, path[k]? = some n := ⟨path[k], List.getElem?_eq_getElem hlt⟩
      obtain ⟨b, off, rfl, hb, c0⟩ := HN.out k n hn
      have d := (hbr.cell (p := ⟨b, off + k, none⟩) hb).trans c0
      have hdr : path.drop k = n :: path.drop (k + 1) := by
        rw [List.drop_eq_getElem_cons hlt]
        rw [List.getElem?_eq_getElem hlt] at hn
        rw [Option.some.inj hn]
      have hF := HK.out.2.1
      have HG := Lib.hid HK.out.2.2
      rw [hdr] at hF
      have hRd := HK.out.1
      have hlast : path.drop (k + 1) = [] ↔ k + 1 = path.length := by
        rw [List.drop_eq_nil_iff]; omega
      clear HK hdr c0 hn HN HR HP
      by_cases hA : cur.ps.length = 0 ∧ n = 1 ∧ k + 1 = path.length
      · obtain ⟨hA1, rfl, hA3⟩ := hA
        have hX : R = some cur := by
          rw [← hF, hlast.2 hA3]; exact find_one hA1
        have HX := Lib.hid hX
        have hkz : (path.length : Int) - 1 = (k : Int) := by omega
        have hRr := reads_keep (W' := (((((wr.setCell ⟨w.heap.size + 1, 0, none⟩ (.string ⟨cur.ty.toArray⟩)).setCell ⟨w.heap.size + 1, 1, none⟩ (.string ⟨cur.bd.toArray⟩)).setCell ⟨w.heap.size + 1, 2, none⟩ (.int .i64 (cur.fr : Int))).setCell ⟨w.heap.size + 1, 3, none⟩ (.int .i64 (cur.to : Int))).setCell ⟨w.heap.size + 1, 4, none⟩ (.int .i64 (cur.ln : Int))).setCell ⟨w.heap.size + 1, 5, none⟩ (.slice aj cur.ps.length cj)) (ok' := ok) hRd (by rw [six_size]; exact hbr.size) (fun j _ hj => by rw [six_heap _ _ _ _ _ _ _ _ (by omega)]; exact hbr.block j hj) (fun _ h _ => h)
        have HRr := Lib.hid hRr
        clear hF hlast hX hA3 hRd hRr
        rw [hA1] at x5 hbx HRr
        have HA1 := Lib.hid hA1
        clear hA1
        go_wp2_with fail
        refine bodyPost_ret (results_row_tmp (P := Tryz.prog) rfl _ _ (w.heap.size + 1) _ _ _ _ rfl (set_six hbz _ _ _ _ _ _) Tryz.underlying25 rfl part_size) rfl ?_
        refine ⟨_, rfl, ?_, (six_but (ButAt.of (Q := w.heap.size + 1) hbr) (by omega) _ _ _ _ _ _).below (by omega)⟩
        rw [HX.out]
        refine ⟨aj, cj, ?_, ?_⟩
        · show _ = Value.tuple #[.agg #[.string ⟨cur.ty.toArray⟩, .string ⟨cur.bd.toArray⟩, .int .i64 (cur.fr : Int), .int .i64 (cur.to : Int), .int .i64 (cur.ln : Int), .slice aj cur.ps.length cj], .bool true]
          rw [HA1.out]; rfl
        · rw [HA1.out]; exact HRr.out
      · by_cases hB : n < 1 ∨ (cur.ps.length : Int) < n
        · have hX : R = none := by
            rw [← hF]; exact find_out (by rw [hlast]; exact hA) hB
          have HX := Lib.hid hX
          clear hF hlast hX hRd
          by_cases hL0 : cur.ps.length = 0
          · rw [hL0] at x5 hbx hA hB
            clear hL0
            by_cases hn1 : n = 1
            · subst hn1
              have hkz : ¬((k : Int) = (path.length : Int) - 1) := by omega
              clear hA hB
              go_wp2_with fail
              refine bodyPost_ret (results_row_tmp (P := Tryz.prog) rfl _ _ (w.heap.size + 1) _ _ _ _ rfl (set_six hbz _ _ _ _ _ _) Tryz.underlying25 rfl part_size) rfl ?_
              exact ⟨_, rfl, by rw [HX.out]; rfl, (six_but (ButAt.of (Q := w.heap.size + 1) hbr) (by omega) _ _ _ _ _ _).below (by omega)⟩
            · by_cases hlo : n < 1
              · clear hA hB
                go_wp2_with fail
                refine bodyPost_ret (results_row_tmp (P := Tryz.prog) rfl _ _ (w.heap.size + 1) _ _ _ _ rfl (set_six hbz _ _ _ _ _ _) Tryz.underlying25 rfl part_size) rfl ?_
                exact ⟨_, rfl, by rw [HX.out]; rfl, (six_but (ButAt.of (Q := w.heap.size + 1) hbr) (by omega) _ _ _ _ _ _).below (by omega)⟩
              · have hhi : 0 < n := by omega
                clear hA hB
                go_wp2_with fail
                refine bodyPost_ret (results_row_tmp (P := Tryz.prog) rfl _ _ (w.heap.size + 1) _ _ _ _ rfl (set_six hbz _ _ _ _ _ _) Tryz.underlying25 rfl part_size) rfl ?_
                exact ⟨_, rfl, by rw [HX.out]; rfl, (six_but (ButAt.of (Q := w.heap.size + 1) hbr) (by omega) _ _ _ _ _ _).below (by omega)⟩
          · clear hA
            obtain ⟨L, hLe⟩ : ∃ L, cur.ps.length = L := ⟨_, rfl⟩
            rw [hLe] at hbx x5 hcl hB hL0
            clear hLe
            by_cases hlo : n < 1
            · clear hB
              go_wp2_with fail
              refine bodyPost_ret (results_row_tmp (P := Tryz.prog) rfl _ _ (w.heap.size + 1) _ _ _ _ rfl (set_six hbz _ _ _ _ _ _) Tryz.underlying25 rfl part_size) rfl ?_
              exact ⟨_, rfl, by rw [HX.out]; rfl, (six_but (ButAt.of (Q := w.heap.size + 1) hbr) (by omega) _ _ _ _ _ _).below (by omega)⟩
            · have hhi : (L : Int) < n := by omega
              clear hB
              go_wp2_with fail
              refine bodyPost_ret (results_row_tmp (P := Tryz.prog) rfl _ _ (w.heap.size + 1) _ _ _ _ rfl (set_six hbz _ _ _ _ _ _) Tryz.underlying25 rfl part_size) rfl ?_
              exact ⟨_, rfl, by rw [HX.out]; rfl, (six_but (ButAt.of (Q := w.heap.size + 1) hbr) (by omega) _ _ _ _ _ _).below (by omega)⟩
        · obtain ⟨m, rfl⟩ : ∃ m : Nat, n = (m : Int) + 1 := ⟨(n - 1).toNat, by omega⟩
          obtain ⟨q, hq⟩ : ∃ q, cur.ps[m]? = some q := ⟨cur.ps[m]'(by omega), List.getElem?_eq_getElem (by omega)⟩
          rw [find_in hq] at hF
          have HF := Lib.hid hF
          obtain ⟨gb, n0, cap0, aj2, cj2, he, hgb, _, d0, d1, d2, d3, d4, d5, hq5⟩ := reads_at hRd m q hq
          have d0 := (hbr.cell (p := ⟨gb, m * 6, none⟩) hgb).trans d0
          have d1 := (hbr.cell (p := ⟨gb, m * 6 + 1, none⟩) hgb).trans d1
          have d2 := (hbr.cell (p := ⟨gb, m * 6 + 2, none⟩) hgb).trans d2
          have d3 := (hbr.cell (p := ⟨gb, m * 6 + 3, none⟩) hgb).trans d3
          have d4 := (hbr.cell (p := ⟨gb, m * 6 + 4, none⟩) hgb).trans d4
          have d5 := (hbr.cell (p := ⟨gb, m * 6 + 5, none⟩) hgb).trans d5
          cases he
          clear hF hA hlast
          obtain ⟨L, hLe⟩ : ∃ L, cur.ps.length = L := ⟨_, rfl⟩
          rw [hLe] at hbx x5 hcl hB hRd
          have hL0 : L ≠ 0 := by omega
          have hm1 : ¬((m : Int) + 1 < 1) := by omega
          have hm2 : ¬((L : Int) < (m : Int) + 1) := by omega
          have hmL : m < L := by omega
          clear hLe hB
          go_wp2_with fail
          go_roundg g'
          case measure => omega
          case rel => exact ⟨k + 1, q, aj2, cj2, by omega, by go_num, by (obtain ⟨gc, h⟩ := HG.out; obtain ⟨g2, h2⟩ := fine_kid h (List.mem_of_getElem? hq); exact fine_len h2), (six_but (ButAt.of (Q := w.heap.size) hbr) (Nat.le_refl _) _ _ _ _ _ _).below (Nat.le_refl _), set_six hbx _ _ _ _ _ _, (six_heap wr _ _ _ _ _ _ (w.heap.size + 1) (by omega)).trans hbz, hq5, HF.out, by (obtain ⟨gc, h⟩ := HG.out; exact fine_kid h (List.mem_of_getElem? hq))⟩
    · have hdr : path.drop k = [] := List.drop_eq_nil_of_le (by omega)
      have hF := HK.out.2.1
      rw [hdr, find_nil] at hF
      have HX := Lib.hid hF
      have hRr := reads_keep (W' := (((((wr.setCell ⟨w.heap.size + 1, 0, none⟩ (.string ⟨cur.ty.toArray⟩)).setCell ⟨w.heap.size + 1, 1, none⟩ (.string ⟨cur.bd.toArray⟩)).setCell ⟨w.heap.size + 1, 2, none⟩ (.int .i64 (cur.fr : Int))).setCell ⟨w.heap.size + 1, 3, none⟩ (.int .i64 (cur.to : Int))).setCell ⟨w.heap.size + 1, 4, none⟩ (.int .i64 (cur.ln : Int))).setCell ⟨w.heap.size + 1, 5, none⟩ (.slice aj cur.ps.length cj)) (ok' := ok) HK.out.1 (by rw [six_size]; exact hbr.size) (fun j _ hj => by rw [six_heap _ _ _ _ _ _ _ _ (by omega)]; exact hbr.block j hj) (fun _ h _ => h)
      have HRr := Lib.hid hRr
      clear hF hdr hRr HK
      go_wp2_with fail
      refine bodyPost_ret (results_row_tmp (P := Tryz.prog) rfl _ _ (w.heap.size + 1) _ _ _ _ rfl (set_six hbz _ _ _ _ _ _) Tryz.underlying25 rfl part_size) rfl ?_
      refine ⟨_, rfl, ?_, (six_but (ButAt.of (Q := w.heap.size + 1) hbr) (by omega) _ _ _ _ _ _).below (by omega)⟩
      rw [← HX.out]
      exact ⟨aj, cj, rfl, HRr.out⟩
theorem find_any (p : PT) (ao : Option Addr) (cap : Nat) (pv : Value) (path : List Int) (w : World) (ok : Nat → Prop) (hp : Reads w ok (.slice ao p.ps.length cap) p.ps) (gp : Nat) (hfp : Fine gp p) (hpv : RowAt w pv (path.map fun x => Value.int .i64 x)) (hpl : path.length ≤ 1000000) :
    Calls Tryz.prog 9 #[aggP p ao cap, pv] w fun e w' => ∃ v, e = .returned v ∧ FindRes (findF p path) v w' ok ∧ Below w.heap.size w w' := by
  obtain ⟨an, capn, rfl, han⟩ : ∃ an capn, pv = .slice an path.length capn ∧ (∀ (j : Nat) (n : Int), path[j]? = some n → ∃ b off, an = some ⟨b, off, none⟩ ∧ b < w.heap.size ∧ w.cell? ⟨b, off + j, none⟩ = some (.int .i64 n)) := by
    rcases hpv with ⟨rfl, h0⟩ | ⟨b, off, cap, rfl, hlt, hc⟩
    · have : path = [] := by simpa using h0
      subst this
      exact ⟨none, 0, rfl, fun j f hj => by simp at hj⟩
    · exact ⟨_, cap, by rw [List.length_map], fun j n hj => ⟨b, off, rfl, hlt, hc j _ (by simp [hj])⟩⟩
  exact find_num p ao cap an capn path w ok hp gp hfp han hpl
end Go.Proofs.YtmjfhhladicacaaGreatDoor
