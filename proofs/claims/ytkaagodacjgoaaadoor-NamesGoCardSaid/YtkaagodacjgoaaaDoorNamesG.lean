/- The walk over letterboxlaw.NamesGo: it returns true, whatever it is given. Conditions: utf8's two tables, bytealg.MaxLen and errors.errorType lie as the program's text lays them. -/
import Derived.Test.YtkaagodacjgoaaaDoorRows
import Derived.Test.YtkaagodacjgoaaaDoorRefD
import Derived.Test.YtkaagodacjgoaaaDoorTell
namespace Go.Proofs.YtkaagodacjgoaaaDoor
open Go.RowKit Go.Shelf

def All (w : World) : Prop := Globs w ∧ ErrTy w
theorem All.below {w w' : World} (h : All w) (hb : Below w.heap.size w w') : All w' := ⟨h.1.below hb, errTy_below h.2 hb⟩

set_option maxRecDepth 100000 in
set_option maxHeartbeats 8000000 in
theorem namesGo_any (s t : ByteArray) (w : World) (hs : s.size ≤ 9223372036854775807) (ht : t.size ≤ 9223372036854775807) (hA : All w) :
    Calls Tryd.prog 4 #[.string s, .string t] w fun e w' => e = .returned (.bool true) ∧ Below w.heap.size w w' := by
  by_cases h200 : (200 : Int) < (s.size : Int)
  · go_enter Tryd.func4, Tryd.ntmps4
    go_wp2_with fail
    go_ret
    exact ⟨rfl, Below.refl _ _⟩
  by_cases h400 : (400 : Int) < (t.size : Int)
  · go_enter Tryd.func4, Tryd.ntmps4
    go_wp2_with fail
    go_ret
    exact ⟨rfl, Below.refl _ _⟩
  have hw : Below w.heap.size w w := Below.refl _ _
  have cD := fun W (hW : All W) => decode_any t W (by omega) hW.1
  have cRD := fun W (hW : All W) => decodeR_any t W (by omega) hW.1.1
  have cb0 : ∀ W : World, Calls Tryd.prog 10 #[.nilIface, .int .i64 0] W fun e w' => e = .returned (.bool true) ∧ Below W.heap.size W w' := fun W => bare_nil 0 W
  have cb1 : ∀ W : World, All W → Calls Tryd.prog 10 #[.iface 29 (.int .i64 1), .int .i64 1] W fun e w' => e = .returned (.bool true) ∧ Below W.heap.size W w' := fun W hW => bare_err 1 1 W hW.2
  have cb3 : ∀ W : World, All W → Calls Tryd.prog 10 #[.iface 29 (.int .i64 3), .int .i64 3] W fun e w' => e = .returned (.bool true) ∧ Below W.heap.size W w' := fun W hW => bare_err 3 3 W hW.2
  generalize decL t.data.toList = D at cD cRD
  cases hR : rightL s.data.toList
  · have cE := fun W (hW : All W) => encode_no s W (by omega) hW.1.1 hR
    have cRE := fun W (hW : All W) => encodeR_no s W (by omega) hW.1.1 hR
    have cR := fun W (hW : All W) => right_any s W (by omega) hW.1.1
    have cRR := fun W (hW : All W) => named_any s W (by omega) hW.1.1
    rw [hR] at cR cRR
    clear hR
    cases D <;> simp only [decV, decRV, errV] at cD cRD cE
    all_goals
      go_enter Tryd.func4, Tryd.ntmps4
      go_wp2_with (first
        | (go_at_call 9; refine (cRE _ hA).mono ?_; rintro e w1 ⟨rfl, hb1⟩; have hw := hw.trans (hb1.mono hw.size); have hA := hA.below hb1)
        | (go_at_call 6; refine (cE _ hA).mono ?_; rintro e w1 ⟨rfl, hb1⟩; have hw := hw.trans (hb1.mono hw.size); have hA := hA.below hb1)
        | (go_at_call 10; with_reducible refine (cb0 _).mono ?_; rintro e w1 ⟨rfl, hb1⟩; have hw := hw.trans (hb1.mono hw.size); have hA := hA.below hb1)
        | (go_at_call 10; with_reducible refine (cb1 _ hA).mono ?_; rintro e w1 ⟨rfl, hb1⟩; have hw := hw.trans (hb1.mono hw.size); have hA := hA.below hb1)
        | (go_at_call 10; with_reducible refine (cb3 _ hA).mono ?_; rintro e w1 ⟨rfl, hb1⟩; have hw := hw.trans (hb1.mono hw.size); have hA := hA.below hb1)
        | (go_at_call 8; refine (cR _ hA).mono ?_; rintro e w1 ⟨rfl, hb1⟩; have hw := hw.trans (hb1.mono hw.size); have hA := hA.below hb1)
        | (go_at_call 11; refine (cRR _ hA).mono ?_; rintro e w1 ⟨rfl, hb1⟩; have hw := hw.trans (hb1.mono hw.size); have hA := hA.below hb1)
        | (go_at_call 12; refine (cRD _ hA).mono ?_; rintro e w1 ⟨rfl, hb1⟩; have hw := hw.trans (hb1.mono hw.size); have hA := hA.below hb1)
        | (go_at_call 7; refine (cD _ hA).mono ?_; rintro e w1 ⟨rfl, hb1⟩; have hw := hw.trans (hb1.mono hw.size); have hA := hA.below hb1))
      go_ret
      exact ⟨rfl, hw⟩
  · have cE := fun W (hW : All W) => encode_yes s W hW.1.1 hR
    have cRE := fun W (hW : All W) => encodeR_yes s W hW.1.1 hR
    have cR := fun W (hW : All W) => right_any s W (by omega) hW.1.1
    have cRR := fun W (hW : All W) => named_any s W (by omega) hW.1.1
    rw [hR] at cR cRR
    clear hR
    generalize encL s.data.toList = X at cE cRE
    cases D <;> simp only [decV, decRV, errV] at cD cRD
    all_goals
      go_enter Tryd.func4, Tryd.ntmps4
      go_wp2_with (first
        | (go_at_call 9; refine (cRE _ hA).mono ?_; rintro e w1 ⟨rfl, hb1⟩; have hw := hw.trans (hb1.mono hw.size); have hA := hA.below hb1)
        | (go_at_call 6; refine (cE _ hA).mono ?_; rintro e w1 ⟨rfl, hb1⟩; have hw := hw.trans (hb1.mono hw.size); have hA := hA.below hb1)
        | (go_at_call 10; with_reducible refine (cb0 _).mono ?_; rintro e w1 ⟨rfl, hb1⟩; have hw := hw.trans (hb1.mono hw.size); have hA := hA.below hb1)
        | (go_at_call 10; with_reducible refine (cb1 _ hA).mono ?_; rintro e w1 ⟨rfl, hb1⟩; have hw := hw.trans (hb1.mono hw.size); have hA := hA.below hb1)
        | (go_at_call 10; with_reducible refine (cb3 _ hA).mono ?_; rintro e w1 ⟨rfl, hb1⟩; have hw := hw.trans (hb1.mono hw.size); have hA := hA.below hb1)
        | (go_at_call 8; refine (cR _ hA).mono ?_; rintro e w1 ⟨rfl, hb1⟩; have hw := hw.trans (hb1.mono hw.size); have hA := hA.below hb1)
        | (go_at_call 11; refine (cRR _ hA).mono ?_; rintro e w1 ⟨rfl, hb1⟩; have hw := hw.trans (hb1.mono hw.size); have hA := hA.below hb1)
        | (go_at_call 12; refine (cRD _ hA).mono ?_; rintro e w1 ⟨rfl, hb1⟩; have hw := hw.trans (hb1.mono hw.size); have hA := hA.below hb1)
        | (go_at_call 7; refine (cD _ hA).mono ?_; rintro e w1 ⟨rfl, hb1⟩; have hw := hw.trans (hb1.mono hw.size); have hA := hA.below hb1))
      go_ret
      exact ⟨rfl, hw⟩
end Go.Proofs.YtkaagodacjgoaaaDoor
