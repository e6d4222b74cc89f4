/- The walk over strings.NewReplacer: a new replacer that is not yet built. No condition beyond those it names. -/
import Derived.Test.YtclelkoefeiloaaGreatDoorAppS
namespace Go.Proofs.YtclelkoefeiloaaGreatDoor
open Go.RowKit Go.Shelf Go.Sort

set_option maxRecDepth 100000 in
set_option maxHeartbeats 4000000 in
theorem newRep_any (v : Value) (k : Nat) (ss : List (List UInt8)) (w : World) (hv : SRow w v ss) (hk : ss.length = 2 * k) (hs : ss.length ≤ 40) :
    Calls Tryz.prog 26 #[v] w fun e w' => ∃ R sv, e = .returned (.pointer (some ⟨R, 0, none⟩)) ∧ w.heap.size ≤ R ∧ w'.heap[R]? = some (.cells #[.int .u32 0, .int .i32 0, .int .u32 0, .nilIface, sv] 90 (0, 0)) ∧
      w'.ownsRow w.heap.size 9 1 sv ss.length (ss.map encStr) ∧ Below w.heap.size w w' := by
  obtain ⟨ao, cap, rfl, hcap, ⟨_, hno⟩, hc⟩ := hv
  have HC := Lib.hid hc
  have hr : (ss.length : Int).tmod 2 = 0 := by rw [Int.tmod_eq_emod_of_nonneg (by omega)]; omega
  clear hc hcap hk
  go_enter Tryz.func26, Tryz.ntmps26
  go_wp2_with (at_builtin; go_must (refine wpList_appS rfl _ _ 41 rfl 9 Tryz.underlying41 str_info rfl w.heap.size (.slice none 0 0) [] _ rfl (World.ownsRow_nil _ _ _ _) ao ss cap rfl hno HC.out ?hn (by decide) (Nat.le_refl _) ?_))
  case hn => simp; omega
  intro v' w' k1 k2
  have y := (Below.refl w.heap.size w).grown k2 (Nat.le_refl _) (fun j h => by cases h)
  obtain ⟨sa, sn, sc, rfl⟩ : ∃ a n c, v' = .slice a n c := by
    rcases k1.2 with ⟨rfl, _⟩ | ⟨g, c, cur, rfl, _⟩
    · exact ⟨_, _, _, rfl⟩
    · exact ⟨_, _, _, rfl⟩
  go_wp2_with fail
  go_ret
  exact ⟨w'.heap.size, _, rfl, y.size, World.heap_alloc_new _ _, k1.alloc _, y.alloc y.size _⟩
end Go.Proofs.YtclelkoefeiloaaGreatDoor
