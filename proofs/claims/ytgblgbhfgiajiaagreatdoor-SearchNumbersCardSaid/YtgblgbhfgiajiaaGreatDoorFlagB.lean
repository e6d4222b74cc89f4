/- The walks over flags.Name, rank, order: each returns what its plain function says. Conditions: flags.system lies as the program's text lays it. -/
import Derived.Test.YtgblgbhfgiajiaaGreatDoorFlagA
import Derived.IntWalk
namespace Go.Proofs.YtgblgbhfgiajiaaGreatDoor
open Go.RowKit Go.Shelf

set_option maxRecDepth 1000000 in
theorem fzero92 : (Tryz.prog.info? 112).map (fun i => (i.zero, i.size)) = some (some (.agg (Array.replicate 256 (.bool false))), 256) := by kernel_rfl
/-- the letters of flags, as the program writes them -/
def lettersL : List UInt8 := [97, 98, 99, 100, 101, 102, 103, 104, 105, 106, 107, 108, 109, 110, 111, 112, 113, 114, 115, 116, 117, 118, 119, 120, 121, 122, 65, 66, 67, 68, 69, 70, 71, 72, 73, 74, 75, 76, 77, 78, 79, 80, 81, 82, 83, 84, 85, 86, 87, 88, 89, 90, 48, 49, 50, 51, 52, 53, 54, 55, 56, 57, 95, 36]
theorem letters_has (c : UInt8) : lettersL.contains c = letterC c := u8_all (p := fun c => lettersL.contains c = letterC c) (by decide +kernel) c
theorem dropWhile_nil {α : Type} (p : α → Bool) : ∀ l : List α, l.dropWhile p = [] ↔ l.all p = true
  | [] => by simp
  | x :: l => by
    rw [List.dropWhile_cons, List.all_cons]
    cases h : p x
    · simp
    · simp [dropWhile_nil p l]
theorem all_rev {α : Type} (p : α → Bool) (l : List α) : l.reverse.all p = l.all p := by simp
theorem trim_nil (s : List UInt8) : Lib.trimS s lettersL = [] ↔ s.all letterC = true := by
  have e : (fun c => lettersL.contains c) = letterC := funext letters_has
  unfold Lib.trimS Lib.trimRightS Lib.trimLeftS
  rw [e]
  rw [dropWhile_nil, all_rev]
  constructor
  · intro h
    have h2 := List.takeWhile_append_dropWhile (p := letterC) (l := s.reverse)
    rw [← all_rev, ← h2, List.all_append, h, Bool.and_true]
    exact List.all_takeWhile
  · intro h
    rw [(dropWhile_nil letterC s.reverse).2 (by rw [all_rev]; exact h)]
    rfl
theorem trim_let (l : List UInt8) (W : World) (hs : l.length ≤ 2000000) :
    Calls Tryz.prog 39 #[.string ⟨l.toArray⟩, .string ⟨#[97, 98, 99, 100, 101, 102, 103, 104, 105, 106, 107, 108, 109, 110, 111, 112, 113, 114, 115, 116, 117, 118, 119, 120, 121, 122, 65, 66, 67, 68, 69, 70, 71, 72, 73, 74, 75, 76, 77, 78, 79, 80, 81, 82, 83, 84, 85, 86, 87, 88, 89, 90, 48, 49, 50, 51, 52, 53, 54, 55, 56, 57, 95, 36]⟩] W fun e w' => e = .returned (.string ⟨(Lib.trimS l lettersL).toArray⟩) ∧ Below W.heap.size W w' :=
  Any.strings_Trim_laid Tryz.lays160 fzero92 ⟨l.toArray⟩ ⟨lettersL.toArray⟩ W (by rw [text_size]; omega) (by decide) (ascii_of_all (by decide))

/-- what Name returns -/
def nameV : Nat ⊕ List UInt8 → Value
  | .inl n => .tuple #[.string ⟨#[]⟩, .iface 49 (.int .i64 (n : Int))]
  | .inr t => .tuple #[.string ⟨t.toArray⟩, .nilIface]
theorem pre_head (s : List UInt8) : Lib.hasPrefix s [92] = decide (s.head? = some 92) := by
  cases s with
  | nil => rfl
  | cons c r =>
    show (92 == c && List.isPrefixOf [] r) = _
    by_cases h : c = 92
    · subst h; rfl
    · have h2 : ¬ (92 : UInt8) = c := fun e => h e.symm
      simp [h, h2]

set_option maxRecDepth 100000 in
set_option maxHeartbeats 4000000 in
theorem fname_any (s : List UInt8) (w : World) (hs : s.length ≤ 2000000) (hG : FlagG w) :
    Calls Tryz.prog 80 #[.string ⟨s.toArray⟩] w fun e w' => e = .returned (nameV (nameF s)) ∧ Below w.heap.size w w' := by
  have hts := text_size s
  have cH := fun W => Tryz.strings_HasPrefix ⟨s.toArray⟩ ⟨#[92]⟩ W
  have e92 : (⟨#[92]⟩ : ByteArray).data.toList = [92] := rfl
  have y0 := (Below.refl w.heap.size w).alloc (Nat.le_refl _) (.cells #[.string ⟨s.toArray⟩] 9)
  have x0 := World.heap_alloc_new w (.cells #[.string ⟨s.toArray⟩] 9)
  have c0 : (w.alloc (.cells #[.string ⟨s.toArray⟩] 9)).cell? ⟨w.heap.size, 0, none⟩ = some (.string ⟨s.toArray⟩) := by rw [Lib.cell_of_heap x0]; rfl
  simp only [List.toList_toArray] at cH
  rw [pre_head] at cH
  obtain ⟨R, hR⟩ : ∃ R, nameF s = R := ⟨_, rfl⟩
  rw [hR]
  unfold nameF at hR
  by_cases h92 : s.head? = some 92
  · rw [decide_eq_true h92] at cH
    rw [if_pos h92] at hR
    have cI := fidx_any s w.heap.size _ hs c0 (by rw [alloc_size]; omega) (hG.below y0)
    have HR : Hid ((match sysL.find? (hitF s) with | some t => (.inr t : Nat ⊕ List UInt8) | none => .inl 3) = R) := hR
    clear hR h92 x0
    cases hf : sysL.find? (hitF s) with
    | none =>
      have cI2 := cI.mono (R' := fun e w' => e = .returned (.int .i64 (-1)) ∧ Below (w.alloc (.cells #[.string ⟨s.toArray⟩] 9)).heap.size (w.alloc (.cells #[.string ⟨s.toArray⟩] 9)) w') (by
        rintro e w' ⟨r, rfl, hi, hb⟩
        rcases hi with ⟨rfl, _⟩ | ⟨k, t, rfl, _, _, h2⟩
        · exact ⟨rfl, hb⟩
        · rw [hf] at h2; cases h2)
      have hR2 := HR.out
      rw [hf] at hR2
      have HR2 := Lib.hid hR2
      clear cI hR2 HR hf
      go_enter Tryz.func80, Tryz.ntmps80
      go_wp2_with (first
        | (go_at_call 45; with_reducible refine (cH _).mono ?_; rintro e w1 ⟨rfl, hw⟩; rw [hw]; clear hw)
        | (go_at_call 102; go_loud (with_reducible refine cI2.mono ?_; rintro e w2 ⟨rfl, h⟩; have y := y0.trans (h.mono y0.size))))
      go_ret2
      exact ⟨by rw [← HR2.out]; rfl, y⟩
    | some t =>
      have cI2 := cI.mono (R' := fun e w' => ∃ k : Nat, e = .returned (.int .i64 (k : Int)) ∧ k < 5 ∧ Hid (sysL[k]? = some t) ∧ Below (w.alloc (.cells #[.string ⟨s.toArray⟩] 9)).heap.size (w.alloc (.cells #[.string ⟨s.toArray⟩] 9)) w') (by
        rintro e w' ⟨r, rfl, hi, hb⟩
        rcases hi with ⟨rfl, h2⟩ | ⟨k, t', rfl, hk, ht, h2⟩
        · rw [hf] at h2; cases h2
        · rw [hf] at h2; cases h2; exact ⟨k, rfl, hk, ht, hb⟩)
      have hR2 := HR.out
      rw [hf] at hR2
      have HR2 := Lib.hid hR2
      clear cI hR2 HR hf
      go_enter Tryz.func80, Tryz.ntmps80
      go_wp2_with (first
        | (go_at_call 45; with_reducible refine (cH _).mono ?_; rintro e w1 ⟨rfl, hw⟩; rw [hw]; clear hw)
        | (go_at_call 102; go_loud (with_reducible refine cI2.mono ?_; rintro e w2 ⟨k, rfl, hk, HT, h⟩; have y := y0.trans (h.mono y0.size); have d := (hG.below y).cell HT.out)))
      go_ret2
      exact ⟨by rw [← HR2.out]; rfl, y⟩
  · rw [decide_eq_false h92] at cH
    rw [if_neg h92] at hR
    by_cases hemp : s = []
    · subst hemp
      have HR : Hid ((.inl 3 : Nat ⊕ List UInt8) = R) := by
        rw [if_pos (Or.inl rfl)] at hR
        exact hR
      clear hR h92 x0
      go_enter Tryz.func80, Tryz.ntmps80
      go_wp2_with (first
        | (go_at_call 45; with_reducible refine (cH _).mono ?_; rintro e w1 ⟨rfl, hw⟩; rw [hw]; clear hw))
      go_ret2
      exact ⟨by rw [← HR.out]; rfl, y0⟩
    · have he1 : (⟨s.toArray⟩ : ByteArray).toList.isEmpty = false := by rw [w_empty]; simpa using hemp
      have he2 : s.isEmpty = false := by simpa using hemp
      have cT := fun W => trim_let s W hs
      have htn := trim_nil s
      have hTl : (Lib.trimS s lettersL).length ≤ s.length := by
        unfold Lib.trimS Lib.trimRightS Lib.trimLeftS
        have := (List.dropWhile_sublist (fun c => lettersL.contains c) (l := (List.dropWhile (fun c => lettersL.contains c) s.reverse).reverse)).length_le
        have := (List.dropWhile_sublist (fun c => lettersL.contains c) (l := s.reverse)).length_le
        simp only [List.length_reverse] at *
        omega
      generalize Lib.trimS s lettersL = T at cT htn hTl
      cases ha : s.all letterC with
      | false =>
        have hT : T ≠ [] := fun h => by rw [htn.1 h] at ha; cases ha
        have he3 : (⟨T.toArray⟩ : ByteArray).toList.isEmpty = false := by rw [w_empty]; simpa using hT
        have he4 : T.isEmpty = false := by simpa using hT
        have HR : Hid ((.inl 3 : Nat ⊕ List UInt8) = R) := by
          rw [if_pos (Or.inr ha)] at hR
          exact hR
        clear hR h92 x0 hemp hT htn ha
        go_enter Tryz.func80, Tryz.ntmps80
        go_wp2_with (first
          | (go_at_call 45; with_reducible refine (cH _).mono ?_; rintro e w1 ⟨rfl, hw⟩; rw [hw]; clear hw)
          | (go_at_call 39; go_loud (with_reducible refine (cT _).mono ?_; rintro e w2 ⟨rfl, h⟩; have y := y0.trans (h.mono y0.size))))
        go_ret2
        exact ⟨by rw [← HR.out]; rfl, y⟩
      | true =>
        have hT : T = [] := htn.2 ha
        subst hT
        rw [if_neg (by rintro (h | h); exact hemp h; rw [ha] at h; cases h)] at hR
        by_cases h20 : 20 < s.length
        · have HR : Hid ((.inl 4 : Nat ⊕ List UInt8) = R) := by
            rw [if_pos h20] at hR
            exact hR
          have h20z : (20 : Int) < (s.length : Int) := by omega
          clear hR h92 x0 hemp htn ha
          go_enter Tryz.func80, Tryz.ntmps80
          go_wp2_with (first
            | (go_at_call 45; with_reducible refine (cH _).mono ?_; rintro e w1 ⟨rfl, hw⟩; rw [hw]; clear hw)
            | (go_at_call 39; go_loud (with_reducible refine (cT _).mono ?_; rintro e w2 ⟨rfl, h⟩; have y := y0.trans (h.mono y0.size); have d := below_cell h c0)))
          go_ret2
          exact ⟨by rw [← HR.out]; rfl, y⟩
        · have HR : Hid ((.inr s : Nat ⊕ List UInt8) = R) := by
            rw [if_neg h20] at hR
            exact hR
          have h20z : ¬((20 : Int) < (s.length : Int)) := by omega
          clear hR h92 x0 hemp htn ha
          go_enter Tryz.func80, Tryz.ntmps80
          go_wp2_with (first
            | (go_at_call 45; with_reducible refine (cH _).mono ?_; rintro e w1 ⟨rfl, hw⟩; rw [hw]; clear hw)
            | (go_at_call 39; go_loud (with_reducible refine (cT _).mono ?_; rintro e w2 ⟨rfl, h⟩; have y := y0.trans (h.mono y0.size); have d := below_cell h c0)))
          go_ret2
          exact ⟨by rw [← HR.out]; rfl, y⟩
end Go.Proofs.YtgblgbhfgiajiaaGreatDoor
