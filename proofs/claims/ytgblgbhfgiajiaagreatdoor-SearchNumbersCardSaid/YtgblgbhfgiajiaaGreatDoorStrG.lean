/- strconv's variables, and its Atoi and Itoa. Conditions: strconv's table of powers and its two errors lie as the program's text lays them. -/
import Derived.Test.YtgblgbhfgiajiaaGreatDoorRows
import Derived.Test.YtgblgbhfgiajiaaGreatDoorShelf
import Derived.Test.YtgblgbhfgiajiaaGreatDoorText
import Derived.Lib.AtoiAll
import Derived.Lib.ItoaNum
import Derived.Lib.ConvBytes
import Derived.IntWalk
namespace Go.Proofs.YtgblgbhfgiajiaaGreatDoor
open Go.RowKit Go.Shelf Go.Sort

theorem var_below {w w' : World} {n : String} {cs : Array Value} (h : w.var? Tryz.prog n = some cs) (hb : Below w.heap.size w w') : w'.var? Tryz.prog n = some cs := by
  unfold World.var? at h ⊢
  cases hg : Tryz.prog.globalNamed n with
  | none => rw [hg] at h; simp at h
  | some g =>
    rw [hg] at h
    simp only [Option.bind_some, Option.bind_eq_bind] at h ⊢
    cases ho : w.heap[g]? with
    | none => simp [ho] at h
    | some o =>
      rw [below_same hb ho]
      simpa [ho] using h
structure StrG (w : World) : Prop where
  tab : Lib.TabIs Tryz.prog w "internal/strconv.uint64pow10" .u64 Lib.pow10Tab
  syn : ∃ tp p, w.var? Tryz.prog "strconv.ErrSyntax" = some #[.iface tp p]
  ran : ∃ tp p, w.var? Tryz.prog "strconv.ErrRange" = some #[.iface tp p]
theorem StrG.below {w w' : World} (h : StrG w) (hb : Below w.heap.size w w') : StrG w' :=
  ⟨var_below h.tab hb, by obtain ⟨a, b, h⟩ := h.syn; exact ⟨a, b, var_below h hb⟩, by obtain ⟨a, b, h⟩ := h.ran; exact ⟨a, b, var_below h hb⟩⟩

theorem atoi_yes (s : List UInt8) (v : Int) (w : World) (h : Lib.atoiAll s = .ok v) (hs : s.length ≤ 2000000) :
    Calls Tryz.prog 81 #[.string ⟨s.toArray⟩] w fun e w' => e = .returned (.tuple #[.int .i64 v, .nilIface]) ∧ Below w.heap.size w w' := by
  refine (Tryz.strconv_Atoi_ok ⟨s.toArray⟩ (by rw [text_size]; omega) v h w).mono ?_
  rintro e w' ⟨rfl, h⟩
  refine ⟨rfl, ?_⟩
  rcases h with rfl | ⟨t, rfl⟩
  · exact Below.refl _ _
  · exact ⟨rfl, rfl, rfl, by rw [Lib.bytesWorld_size]; omega, fun j hj => Lib.bytesWorld_at_old w _ t j hj⟩
theorem atoi_no (s : List UInt8) (w : World) (h : ∀ v, Lib.atoiAll s ≠ .ok v) (hs : s.length ≤ 2000000) (hG : StrG w) :
    Calls Tryz.prog 81 #[.string ⟨s.toArray⟩] w fun e w' => ∃ n N, e = .returned (.tuple #[.int .i64 n, .iface 162 (.pointer (some ⟨N, 0, none⟩))]) ∧ Below w.heap.size w w' := by
  cases hc : Lib.atoiAll s
  · exact absurd hc (h _)
  · obtain ⟨tp, p, hv⟩ := hG.syn
    refine (Any.strconv_Atoi_syntax_var Tryz.laysC172 ⟨s.toArray⟩ (by rw [text_size]; omega) hc tp p w hv).mono ?_
    rintro e w' ⟨N, rfl, _, _, hb⟩
    exact ⟨_, N, rfl, hb⟩
  · obtain ⟨tp, p, hv⟩ := hG.ran
    refine (Tryz.strconv_Atoi_range_var ⟨s.toArray⟩ (by rw [text_size]; omega) hc tp p w hv).mono ?_
    rintro e w' ⟨N, rfl, _, _, hb⟩
    exact ⟨_, N, rfl, hb⟩
theorem itoa_any (v : Int) (w : World) (h0 : 0 ≤ v) (h1 : v ≤ 4611686018427387904) (hG : StrG w) :
    Calls Tryz.prog 11 #[.int .i64 v] w fun e w' => e = .returned (.string ⟨(Lib.itoa v).toArray⟩) ∧ Below w.heap.size w w' := by
  refine (Tryz.strconv_Itoa v (by omega) (by omega) w hG.tab).mono ?_
  rintro e w' ⟨rfl, k, os, rfl⟩
  refine ⟨rfl, rfl, rfl, rfl, ?_, ?_⟩
  · simp [grow]
  · intro j hj
    show (w.heap ++ os)[j]? = w.heap[j]?
    exact Array.getElem?_append_left hj

end Go.Proofs.YtgblgbhfgiajiaaGreatDoor
