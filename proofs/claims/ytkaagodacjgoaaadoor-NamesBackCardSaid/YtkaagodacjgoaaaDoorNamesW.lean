/- The walk over letterboxkeep.NamesBack: it returns true, whatever it is given. Conditions: utf8's two tables and bytealg.MaxLen lie as the program's text lays them. -/
import Derived.Test.YtkaagodacjgoaaaDoorRows
import Derived.Test.YtkaagodacjgoaaaDoorUtfD
import Derived.Test.YtkaagodacjgoaaaDoorPUtf3
namespace Go.Proofs.YtkaagodacjgoaaaDoor
open Go.RowKit Go.Shelf

def codedS : List UInt8 := [97, 38, 195, 169, 98]
def codedX : List UInt8 := [97, 38, 45, 38, 65, 79, 107, 45, 98]
theorem coded_right : rightL codedS = true := by decide +kernel
theorem coded_enc : encL codedS = codedX := by decide +kernel
theorem coded_dec : decL codedX = some codedS := by rw [← coded_enc]; exact dec_enc _ coded_right

set_option maxHeartbeats 1000000 in
theorem coded_any (w : World) (hG : Globs w) :
    Calls Tryd.prog 5 #[] w fun e w' => e = .returned (.bool true) ∧ Below w.heap.size w w' := by
  have cE := encode_yes ⟨codedS.toArray⟩ w hG.1 coded_right
  have e1 : (⟨codedS.toArray⟩ : ByteArray).data.toList = codedS := rfl
  rw [e1, coded_enc] at cE
  have cD := fun W (hW : Globs W) => decode_any ⟨codedX.toArray⟩ W (by decide) hW
  have e2 : (⟨codedX.toArray⟩ : ByteArray).data.toList = codedX := rfl
  simp only [e2, coded_dec, decV] at cD
  clear e1 e2
  unfold codedS codedX at *
  go_enter Tryd.func5, Tryd.ntmps5
  go_wp2_with (go_at_call 6; go_fit cE; rintro e w1 ⟨rfl, hb1⟩)
  have hG1 := hG.below hb1
  go_wp2_with (go_at_call 7; go_fit (cD _ hG1); rintro e w2 ⟨rfl, hb2⟩)
  go_ret
  exact ⟨rfl, hb1.trans (hb2.mono hb1.size)⟩

set_option maxHeartbeats 4000000 in
theorem namesBack_any (s t : ByteArray) (w : World) (hs : s.size ≤ 9223372036854775807) (ht : t.size ≤ 9223372036854775807) (hG : Globs w) :
    Calls Tryd.prog 3 #[.string s, .string t] w fun e w' => e = .returned (.bool true) ∧ Below w.heap.size w w' := by
  by_cases h200 : (200 : Int) < (s.size : Int)
  · go_enter Tryd.func3, Tryd.ntmps3
    go_wp2_with fail
    go_ret
    exact ⟨rfl, Below.refl _ _⟩
  by_cases h400 : (400 : Int) < (t.size : Int)
  · go_enter Tryd.func3, Tryd.ntmps3
    go_wp2_with fail
    go_ret
    exact ⟨rfl, Below.refl _ _⟩
  have cC := coded_any w hG
  have cD2 := fun W (hW : Globs W) => decode_any t W (by omega) hW
  have tail : True := trivial
  have hts := dec_some t.data.toList
  generalize hDt : decL t.data.toList = D at cD2 hts
  clear hDt
  by_cases hR : rightL s.data.toList = true
  · have cE := fun W (hW : Globs W) => encode_yes s W hW.1 hR
    have cR := fun W (hW : Globs W) => right_any s W (by omega) hW.1
    rw [hR] at cR
    have hx := encL_letters s.data.toList
    have hdx := dec_enc _ hR
    have hxl : (encL s.data.toList).length ≤ 100000 := by
      have h1 := encL_len s.data.toList
      have h2 := Lib.size_eq s
      omega
    obtain ⟨X, hX⟩ : ∃ X, encL s.data.toList = X := ⟨_, rfl⟩
    rw [hX] at cE hx hdx hxl
    have cD := fun W (hW : Globs W) => decode_any ⟨X.toArray⟩ W (by rw [mk_size]; exact hxl) hW
    simp only [List.toList_toArray, hdx, decV] at cD
    have Hx := Lib.hid hx
    clear hX hx hdx hR
    go_enter Tryd.func3, Tryd.ntmps3
    go_wp2_with (go_at_call 5; refine cC.mono ?_; rintro e w1 ⟨rfl, hb1⟩)
    have hG1 := hG.below hb1
    refine (cE _ hG1).mono ?_
    rintro e w2 ⟨rfl, hb2⟩
    have hb2' := hb1.trans (hb2.mono hb1.size)
    have hG2 := hG.below hb2'
    go_wp2_with fail
    go_loop [7] (fun i => ∃ k : Nat, k ≤ X.length ∧ i = .int .i64 k) (fun i => X.length - (intOf i).toNat)
    case atStart => exact ⟨0, Nat.zero_le _, rfl⟩
    case round =>
      obtain ⟨k, hk, rfl⟩ := hrel
      by_cases hlt : k < X.length
      · obtain ⟨c, hc⟩ : ∃ c, X[k] = c := ⟨_, rfl⟩
        have hcm := Hx.out c (by rw [← hc]; exact List.getElem_mem hlt)
        have hget : ∀ h, ({ data := X.toArray } : ByteArray)[k]'h = c := fun h => hc
        have hc1 : 32 ≤ (c.toNat : Int) := by omega
        have hc2 : (c.toNat : Int) ≤ 126 := by omega
        clear hc hcm
        go_wp2_with fail
        go_round
        case rel => exact ⟨k + 1, by omega, by go_num⟩
        case measure => simp [intOf]; omega
      · go_wp2_with fail
        refine (cD _ hG2).mono ?_
        rintro e w3 ⟨rfl, hb3⟩
        have hb3' := hb2'.trans (hb3.mono hb2'.size)
        have hG3 := hG.below hb3'
        go_wp2_with (first | (go_at_call 8; refine (cR _ hG3).mono ?_; rintro e w4 ⟨rfl, hb4⟩))
        have hb4' := hb3'.trans (hb4.mono hb3'.size)
        have hG4 := hG.below hb4'
        refine (cD2 w4 hG4).mono ?_
        rintro e w8 ⟨rfl, hb8⟩
        have hb8' := hb4'.trans (hb8.mono hb4'.size)
        have hG8 := hG.below hb8'
        cases D with
        | none =>
          simp only [decV]
          clear hts
          go_wp2_with fail
          go_ret
          exact ⟨rfl, hb8'⟩
        | some y =>
          obtain ⟨hy, hyt⟩ := hts y rfl
          have cE2 := encode_yes ⟨y.toArray⟩ w8 hG8.1 (by simpa using hy)
          simp only [List.toList_toArray, hyt] at cE2
          simp only [decV]
          clear hts hy hyt
          go_wp2_with (go_at_call 6; refine cE2.mono ?_; rintro e w9 ⟨rfl, hb9⟩)
          go_ret
          exact ⟨rfl, hb8'.trans (hb9.mono hb8'.size)⟩
  · have hRf : rightL s.data.toList = false := by simpa using hR
    have cE := fun W (hW : Globs W) => encode_no s W (by omega) hW.1 hRf
    have cR := fun W (hW : Globs W) => right_any s W (by omega) hW.1
    rw [hRf] at cR
    clear hR hRf
    go_enter Tryd.func3, Tryd.ntmps3
    go_wp2_with (go_at_call 5; refine cC.mono ?_; rintro e w1 ⟨rfl, hb1⟩)
    have hG1 := hG.below hb1
    refine (cE _ hG1).mono ?_
    rintro e w2 ⟨rfl, hb2⟩
    have hb2' := hb1.trans (hb2.mono hb1.size)
    have hG2 := hG.below hb2'
    go_wp2_with (first | (go_at_call 8; refine (cR _ hG2).mono ?_; rintro e w4 ⟨rfl, hb4⟩))
    have hb4' := hb2'.trans (hb4.mono hb2'.size)
    have hG4 := hG.below hb4'
    refine (cD2 w4 hG4).mono ?_
    rintro e w8 ⟨rfl, hb8⟩
    have hb8' := hb4'.trans (hb8.mono hb4'.size)
    have hG8 := hG.below hb8'
    cases D with
    | none =>
      simp only [decV]
      clear hts
      go_wp2_with fail
      go_ret
      exact ⟨rfl, hb8'⟩
    | some y =>
      obtain ⟨hy, hyt⟩ := hts y rfl
      have cE2 := encode_yes ⟨y.toArray⟩ w8 hG8.1 (by simpa using hy)
      simp only [List.toList_toArray, hyt] at cE2
      simp only [decV]
      clear hts hy hyt
      go_wp2_with (go_at_call 6; refine cE2.mono ?_; rintro e w9 ⟨rfl, hb9⟩)
      go_ret
      exact ⟨rfl, hb8'.trans (hb9.mono hb8'.size)⟩
end Go.Proofs.YtkaagodacjgoaaaDoor
