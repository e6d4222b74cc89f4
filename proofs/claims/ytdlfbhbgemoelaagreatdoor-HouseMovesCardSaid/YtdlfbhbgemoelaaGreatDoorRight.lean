/- The walk over utf7.Right. Conditions: utf8's two tables lie as their text lays them. -/
import Derived.Test.YtdlfbhbgemoelaaGreatDoorRows
import Derived.Test.YtdlfbhbgemoelaaGreatDoorShelf
import Derived.Test.YtdlfbhbgemoelaaGreatDoorPUtf
import Derived.Test.YtdlfbhbgemoelaaGreatDoorKit2
namespace Go.Proofs.YtdlfbhbgemoelaaGreatDoor
open Go.RowKit Go.Shelf

set_option maxHeartbeats 400000 in
theorem rightClosure (x : Nat) (w : World) :
    Calls Tryz.prog 52 #[.int .i32 (x : Int)] w fun e w' => e = .returned (.bool (badRune x)) ∧ Below w.heap.size w w' := by
  by_cases h1 : (x : Int) < 32
  · have hb : badRune x = true := by unfold badRune; simp; omega
    rw [hb]
    clear hb
    go_enter Tryz.func52, Tryz.ntmps52
    go_wp2
    go_ret
    exact ⟨rfl, Below.refl _ _⟩
  · by_cases h2 : (127 : Int) ≤ (x : Int)
    · by_cases h3 : (x : Int) < 160
      · have hb : badRune x = true := by unfold badRune; simp; omega
        rw [hb]
        clear hb
        go_enter Tryz.func52, Tryz.ntmps52
        go_wp2
        go_ret
        exact ⟨rfl, Below.refl _ _⟩
      · have hb : badRune x = false := by unfold badRune; simp; omega
        rw [hb]
        clear hb
        go_enter Tryz.func52, Tryz.ntmps52
        go_wp2
        go_ret
        exact ⟨rfl, Below.refl _ _⟩
    · have hb : badRune x = false := by unfold badRune; simp; omega
      rw [hb]
      clear hb
      go_enter Tryz.func52, Tryz.ntmps52
      go_wp2
      go_ret
      exact ⟨rfl, Below.refl _ _⟩

def Tabs (w : World) : Prop := Lib.Utf8Tabs 2 3 w
theorem Tabs.below {w w' : World} (h : Tabs w) (hb : Below w.heap.size w w') : Tabs w' := Utf8Tabs_below h hb

theorem indexRight (s : ByteArray) (w : World) :
    Calls Tryz.prog 51 #[.string s, .func (.func 52) #[] #[]] w fun e w' => e = .returned (.int .i64 (Lib.idxFunc badRune true s)) ∧ Below w.heap.size w w' :=
  Tryz.strings_IndexFunc_grows 52 #[] (enters_of Tryz.func52 (by kernel_rfl) rfl) badRune s w (fun W x _ _ => rightClosure x W)

set_option maxHeartbeats 1000000 in
theorem utfRight_any (s : ByteArray) (w : World) (hs : s.size ≤ 1000000) (hT : Tabs w) :
    Calls Tryz.prog 26 #[.string s] w fun e w' => e = .returned (.bool (rightL s.data.toList)) ∧ Below w.heap.size w w' := by
  have hlen : s.data.toList.length = s.size := (Lib.size_eq s).symm
  by_cases h0 : s.size = 0
  · have hr : rightL s.data.toList = false := by
      unfold rightL
      have : s.data.toList = [] := List.eq_nil_of_length_eq_zero (by omega)
      rw [this]; rfl
    rw [hr]
    have he : s.toList.isEmpty = true := by
      rw [Lib.toList_data]
      have : s.data.toList = [] := List.eq_nil_of_length_eq_zero (by omega)
      rw [this]; rfl
    clear hr hlen h0
    go_enter Tryz.func26, Tryz.ntmps26
    go_wp2
    go_ret
    exact ⟨rfl, Below.refl _ _⟩
  · have he : s.toList.isEmpty = false := by
      rw [Lib.toList_data]
      cases hl : s.data.toList with
      | nil => rw [hl] at hlen; simp at hlen; omega
      | cons a b => rfl
    by_cases h60 : s.size ≤ 60
    · have cV := Any.utf8_ValidString Tryz.laysValid s w (by omega) hT
      have hne : s.data.toList.isEmpty = false := by rw [← Lib.toList_data]; exact he
      by_cases hv : Lib.validD s.data.toList = true
      · rw [hv] at cV
        have hR : rightL s.data.toList = decide (Lib.idxFunc badRune true s < 0) := by
          unfold rightL
          rw [hne, hlen, hv, Bool.eq_iff_iff]
          simp only [Bool.not_false, Bool.true_and, Bool.and_eq_true, decide_eq_true_eq, List.all_eq_true, Bool.not_eq_true']
          rw [idx_neg]
          exact ⟨fun h => h.2, fun h => ⟨h60, h⟩⟩
        rw [hR]
        have cI := fun W => indexRight s W
        generalize Lib.idxFunc badRune true s = X at cI
        have h60z : (s.size : Int) ≤ 60 := by omega
        clear hR hv hne hlen h60 h0
        go_enter Tryz.func26, Tryz.ntmps26
        go_wp2_with (first | (go_at_call 50; refine cV.mono ?_; rintro e W1 ⟨rfl, hb1⟩) | (go_at_call 51; refine (cI _).mono ?_; rintro e W2 ⟨rfl, hb2⟩))
        go_ret
        exact ⟨rfl, hb1.trans (hb2.mono hb1.size)⟩
      · have hvf : Lib.validD s.data.toList = false := by simpa using hv
        rw [hvf] at cV
        have hR : rightL s.data.toList = false := by
          unfold rightL; rw [hvf]; simp
        rw [hR]
        have h60z : (s.size : Int) ≤ 60 := by omega
        clear hR hv hvf hne hlen h60 h0
        go_enter Tryz.func26, Tryz.ntmps26
        go_wp2_with (go_at_call 50; refine cV.mono ?_; rintro e W1 ⟨rfl, hb1⟩)
        go_ret
        exact ⟨rfl, hb1⟩
    · have hR : rightL s.data.toList = false := by
        unfold rightL; rw [hlen]; simp [h60]
      rw [hR]
      have h60z : (60 : Int) < (s.size : Int) := by omega
      clear hR hlen h60 h0
      go_enter Tryz.func26, Tryz.ntmps26
      go_wp2
      go_ret
      exact ⟨rfl, Below.refl _ _⟩

end Go.Proofs.YtdlfbhbgemoelaaGreatDoor
