/- The walk over head.Print: it returns what its plain function says. No condition beyond those it names. -/
import Derived.Test.YtmjfhhladicacaaDoorHeadE
import Derived.Test.YtmjfhhladicacaaDoorBuilder
import Derived.Test.YtmjfhhladicacaaDoorPHead3
namespace Go.Proofs.YtmjfhhladicacaaDoor
open Go.RowKit Go.Shelf

theorem bld_write (B b : Nat) (out l : List UInt8) (w : World) (h : Lib.IsBuilderF 81 5 B b (Lib.byteCells out) w) (hlen : out.length + l.length ≤ 140737488355328) (hBw : B ≤ w.heap.size) :
    Calls Tryd.prog 49 #[.pointer (some ⟨b, 0, none⟩), .string ⟨l.toArray⟩] w fun e w' => e = .returned (.tuple #[.int .i64 l.length, .nilIface]) ∧ (Lib.IsBuilderF 81 5 B b (Lib.byteCells (out ++ l)) w' ∧ Below B w w') := by
  refine (bld_WriteString B b (Lib.byteCells out) ⟨l.toArray⟩ w h (by rw [Lib.byteCells_length, text_size]; exact hlen) hBw).mono ?_
  rw [text_size]
  rintro e w' ⟨rfl, h1, h2, _⟩
  refine ⟨rfl, Or.inr ?_, h2⟩
  rw [Lib.byteCells_append]
  exact h1
def linesF (l : List Fld) : List UInt8 := l.flatMap fun f => lineF f ++ [13, 10]
theorem lines_step {l : List Fld} {k : Nat} {f : Fld} (hf : l[k]? = some f) : linesF (l.take (k + 1)) = linesF (l.take k) ++ (lineF f ++ [13, 10]) := by
  rw [List.take_add_one, hf]
  simp [linesF]
theorem print_lines (l : List Fld) : printF l = linesF l ++ [13, 10] := rfl

set_option maxRecDepth 100000 in
set_option maxHeartbeats 4000000 in
theorem print_any (v : Value) (l : List Fld) (w : World) (hv : FldRow w v l) (hl : Lens l) :
    Calls Tryd.prog 28 #[v] w fun e w' => e = .returned (.string ⟨(printF l).toArray⟩) ∧ Below w.heap.size w w' := by
  obtain ⟨ao, cap, rfl, hao⟩ : ∃ ao cap, v = .slice ao l.length cap ∧ (∀ (j : Nat) (f : Fld), l[j]? = some f → ∃ b off, ao = some ⟨b, off, none⟩ ∧ b < w.heap.size ∧ w.cell? ⟨b, off + j * 2, none⟩ = some (.string ⟨f.1.toArray⟩) ∧ w.cell? ⟨b, off + j * 2 + 1, none⟩ = some (.string ⟨f.2.toArray⟩)) := by
    rcases hv with ⟨rfl, rfl⟩ | ⟨b, off, cap, rfl, hlt, hc⟩
    · exact ⟨none, 0, rfl, fun j f hj => by simp at hj⟩
    · exact ⟨_, cap, rfl, fun j f hj => ⟨b, off, rfl, hlt, (hc j f hj).1, (hc j f hj).2⟩⟩
  have HA := Lib.hid hao
  clear hao
  have hll := hl.1
  go_enter Tryd.func28, Tryd.ntmps28
  go_wp2_with fail
  go_loopg [8] l.length (fun g s8 wr => ∃ (k : Nat), k + g = l.length ∧ s8 = .int .i64 k ∧ Lib.IsBuilderF 81 5 w.heap.size w.heap.size (Lib.byteCells (linesF (l.take k))) wr ∧ Below w.heap.size w wr ∧ Hid ((linesF (l.take k)).length ≤ k * 200000004))
  case atStart => exact ⟨0, by omega, rfl, Lib.IsBuilderF.of (Lib.fresh_isBuilder 81 5 w), (Below.refl _ _).alloc (Nat.le_refl _) _, Nat.zero_le _⟩
  case round =>
    obtain ⟨k, hk, rfl, hI, hbr, Hlen⟩ := hrel
    by_cases hlt : k < l.length
    · obtain ⟨g', rfl⟩ : ∃ g', gk = g' + 1 := ⟨gk - 1, by omega⟩
      obtain ⟨f, hf⟩ : ∃ f, l[k]? = some f := ⟨l[k], List.getElem?_eq_getElem hlt⟩
      obtain ⟨b, off, rfl, hb, c1, c2⟩ := HA.out k f hf
      have d1 := (hbr.cell (p := ⟨b, off + k * 2, none⟩) hb).trans c1
      have d2 := (hbr.cell (p := ⟨b, off + k * 2 + 1, none⟩) hb).trans c2
      have hfl := hl.2 f (List.mem_of_getElem? hf)
      have hstep := Lib.hid (lines_step hf)
      obtain ⟨f1, f2⟩ := f
      clear hf c1 c2
      simp only at d1 d2 hfl
      obtain ⟨q1, hq1⟩ : ∃ q1, q1 = f1 ++ [58, 32] := ⟨_, rfl⟩
      obtain ⟨q2, hq2⟩ : ∃ q2, q2 = q1 ++ f2 := ⟨_, rfl⟩
      obtain ⟨q3, hq3⟩ : ∃ q3, q3 = q2 ++ [13, 10] := ⟨_, rfl⟩
      have a1 : (⟨f1.toArray⟩ : ByteArray) ++ ⟨#[58, 32]⟩ = ⟨q1.toArray⟩ := by rw [hq1]; exact text_cat _ _
      have a2 : (⟨q1.toArray⟩ : ByteArray) ++ ⟨f2.toArray⟩ = ⟨q2.toArray⟩ := by rw [hq2]; exact text_cat _ _
      have a3 : (⟨q2.toArray⟩ : ByteArray) ++ ⟨#[13, 10]⟩ = ⟨q3.toArray⟩ := by rw [hq3]; exact text_cat _ _
      have l1 : q1.length = f1.length + 2 := by rw [hq1]; simp
      have l2 : q2.length = f1.length + 2 + f2.length := by rw [hq2, List.length_append, l1]
      have l3 : q3.length = f1.length + 2 + f2.length + 2 := by rw [hq3, List.length_append, l2]; rfl
      have t1 := text_size f1
      have t2 := text_size q1
      have t3 := text_size f2
      have t4 := text_size q2
      have hq : lineF (f1, f2) ++ [13, 10] = q3 := by rw [hq3, hq2, hq1]; rfl
      have hst2 : Hid (linesF (l.take (k + 1)) = linesF (l.take k) ++ q3) := by rw [← hq]; exact hstep
      have hszb : w.heap.size < wr.heap.size := by
        obtain ⟨p, v, hbk⟩ := bld_block hI
        exact (Array.getElem?_eq_some_iff.1 hbk).1
      have hIa := hI.alloc (.cells #[.string ⟨f1.toArray⟩, .string ⟨f2.toArray⟩] 34)
      have hba := hbr.alloc hbr.size (.cells #[.string ⟨f1.toArray⟩, .string ⟨f2.toArray⟩] 34)
      have hlb := Hlen.out
      have cW := bld_write w.heap.size w.heap.size (linesF (l.take k)) q3 _ hIa (by omega) hba.size
      have Hl2 : Hid ((linesF (l.take (k + 1))).length ≤ (k + 1) * 200000004) := by
        show _ ≤ _
        rw [hst2.out, List.length_append]; omega
      have hf1 : f1.length ≤ 100000000 := hfl.1
      have hf2 : f2.length ≤ 100000000 := hfl.2
      clear hq hq1 hq2 hq3 hstep hlb hfl
      go_wp2_with (go_at_call 49; with_reducible refine cW.mono ?_; rintro e w1 ⟨rfl, hI1, hb1⟩)
      rw [← hst2.out] at hI1
      go_roundg g'
      case measure => omega
      case rel => exact ⟨k + 1, by omega, by go_num, hI1, hba.trans hb1, Hl2⟩
    · have hk2 : k = l.length := by omega
      have hI2 : Lib.IsBuilderF 81 5 w.heap.size w.heap.size (Lib.byteCells (linesF l)) wr := by
        have := hI
        rwa [hk2, List.take_of_length_le (Nat.le_refl _)] at this
      have hlb := Hlen.out
      rw [hk2, List.take_of_length_le (Nat.le_refl _)] at hlb
      have cW := bld_write w.heap.size w.heap.size (linesF l) [13, 10] wr hI2 (by simp; omega) hbr.size
      rw [← print_lines] at cW
      have cT := fun W h1 h2 => Tryd.Builder_String_any_k w.heap.size w.heap.size (printF l) W h1 h2
      clear hI hI2 hlb hk2
      go_wp2_with (first
        | (go_at_call 49; with_reducible refine cW.mono ?_; rintro e w1 ⟨rfl, hI1, hb1⟩)
        | (go_at_call 50; with_reducible refine (cT _ hI1 (Nat.le_trans hbr.size hb1.size)).mono ?_; rintro e w2 ⟨rfl, hI3, hb2, hk2⟩))
      go_ret
      exact ⟨rfl, (hbr.trans hb1).trans hb2⟩
end Go.Proofs.YtmjfhhladicacaaDoor
