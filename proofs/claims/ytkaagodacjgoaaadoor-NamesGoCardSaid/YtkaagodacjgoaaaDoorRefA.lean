/- The walks over the reference's small functions for names: in, Named, bits. Conditions: utf8's two tables lie as their text lays them (Named). -/
import Derived.Test.YtkaagodacjgoaaaDoorRows
import Derived.Test.YtkaagodacjgoaaaDoorUtfB
import Derived.Test.YtkaagodacjgoaaaDoorPRef
namespace Go.Proofs.YtkaagodacjgoaaaDoor
open Go.RowKit Go.Shelf

set_option maxHeartbeats 400000 in
theorem in_any (n lo hi : Int) (w : World) :
    Calls Tryd.prog 26 #[.int .i64 n, .int .i64 lo, .int .i64 hi] w fun e w' => e = .returned (.bool (decide (lo ≤ n) && decide (n ≤ hi))) ∧ w = w' := by
  by_cases h1 : lo ≤ n
  · by_cases h2 : n ≤ hi
    · simp only [h1, h2, decide_true, Bool.and_self]
      go_enter Tryd.func26, Tryd.ntmps26
      go_wp2_with fail
      go_ret
      exact ⟨rfl, rfl⟩
    · simp only [h1, h2, decide_true, decide_false, Bool.and_false]
      go_enter Tryd.func26, Tryd.ntmps26
      go_wp2_with fail
      go_ret
      exact ⟨rfl, rfl⟩
  · simp only [h1, decide_false, Bool.false_and]
    go_enter Tryd.func26, Tryd.ntmps26
    go_wp2_with fail
    go_ret
    exact ⟨rfl, rfl⟩

def goodAll (l : List Nat) : Bool := l.all fun r => !badRune r
theorem goodAll_cons (r : Nat) (l : List Nat) : goodAll (r :: l) = (!badRune r && goodAll l) := rfl
theorem named_law (s : ByteArray) : rightL s.data.toList = ((decide ((1 : Int) ≤ s.size) && decide ((s.size : Int) ≤ 60)) && (Lib.validD s.data.toList && goodAll (runesL s.data.toList))) := by
  have hlen : s.data.toList.length = s.size := (Lib.size_eq s).symm
  unfold rightL goodAll
  have e1 : (!s.data.toList.isEmpty) = decide ((1 : Int) ≤ s.size) := by
    cases hl : s.data.toList with
    | nil => rw [hl] at hlen; simp at hlen; simp; omega
    | cons a l => rw [hl] at hlen; simp at hlen; simp; omega
  have e2 : decide (s.data.toList.length ≤ 60) = decide ((s.size : Int) ≤ 60) := by
    rw [hlen]; apply decide_eq_decide.2; omega
  rw [e1, e2, Bool.and_assoc]

set_option maxRecDepth 100000 in
set_option maxHeartbeats 2000000 in
theorem named_any (s : ByteArray) (w : World) (hs : s.size ≤ 1000000) (hT : Tabs w) :
    Calls Tryd.prog 11 #[.string s] w fun e w' => e = .returned (.bool (rightL s.data.toList)) ∧ Below w.heap.size w w' := by
  rw [named_law]
  have cV := fun W (hW : Tabs W) => Any.utf8_ValidString Tryd.laysValid s W (by omega) hW
  have HN : Hid (goodAll (runesL s.data.toList) = goodAll (runesL (s.data.toList.drop 0))) := by rw [List.drop_zero]; rfl
  generalize goodAll (runesL s.data.toList) = N at HN ⊢
  generalize Lib.validD s.data.toList = V at cV ⊢
  go_enter Tryd.func11, Tryd.ntmps11
  go_wp2_with fail
  go_loopg [] s.size (fun g wr => ∃ (pos : Nat), wr.heap[w.heap.size]? = some (.stringIter s pos) ∧ Below w.heap.size w wr ∧ s.size ≤ pos + g ∧ Hid (N = goodAll (runesL (s.data.toList.drop pos))))
  case atStart =>
    refine ⟨0, ?_, (Below.refl _ _).alloc (Nat.le_refl _) _, by omega, HN⟩
    have := World.iter_heap w s 0
    simpa using this
  case round =>
    obtain ⟨pos, hit, hbw, hfu, Hf⟩ := hrel
    have hsz : w.heap.size < wr.heap.size := (Array.getElem?_eq_some_iff.1 hit).1
    by_cases hp : pos < s.size
    · obtain ⟨g', rfl⟩ : ∃ g', gk = g' + 1 := ⟨gk - 1, by omega⟩
      have hnx : ∀ ty, (Instr.next (.pointer (some ⟨w.heap.size, 0, none⟩)) true ty).run Tryd.prog wr = _ := fun ty => Lib.run_next_any_at wr (w.heap.size) s pos ty hit hp
      have hwd := Lib.width_pos s pos
      have hfr := runesL_at s pos hp
      have hf0 := Hf.out
      rw [hfr, goodAll_cons] at hf0
      obtain ⟨R, hR⟩ : ∃ R, (Utf8.decode s pos).1 = R := ⟨_, rfl⟩
      obtain ⟨K, hK⟩ : ∃ K, (Utf8.decode s pos).2 = K := ⟨_, rfl⟩
      rw [hR, hK] at hnx hf0
      rw [hK] at hwd
      have hRl := Lib.rune_le s pos
      rw [hR] at hRl
      obtain ⟨Z, hZ⟩ : ∃ Z : Int, (R : Int) = Z := ⟨_, rfl⟩
      have hZ0 : 0 ≤ Z := by omega
      have hZ1 : Z < 2147483648 := by omega
      rw [hZ] at hnx
      clear hR hK hfr Hf hRl
      have hit2 := Lib.iterAt_heap wr (w.heap.size) s pos (pos + K) hit
      have hbw2 := Lib.below_iterAt hbw (k := w.heap.size) (by omega) s (pos + K)
      obtain ⟨X, hX⟩ : ∃ X, wr.iterAt (w.heap.size) s (pos + K) = X := ⟨_, rfl⟩
      rw [hX] at hnx hit2 hbw2
      clear hX hit hbw
      by_cases h1 : Z < 32
      · have hN : N = false := by
          have : badRune R = true := by unfold badRune; simp; omega
          rw [hf0, this]; rfl
        subst hN
        clear hf0 hZ
        go_wp2_with fail
        go_ret
        exact ⟨by simp, hbw2⟩
      · by_cases h2 : (127 : Int) ≤ Z ∧ Z ≤ 159
        · have hN : N = false := by
            have : badRune R = true := by unfold badRune; simp; omega
            rw [hf0, this]; rfl
          subst hN
          clear hf0 hZ
          have ci := in_any Z 127 159 X
          simp only [h2.1, h2.2, decide_true, Bool.and_self] at ci
          clear h2
          go_wp2_with (go_at_call 26; refine ci.mono ?_; rintro e w1 ⟨rfl, rfl⟩)
          go_ret
          exact ⟨by simp, hbw2⟩
        · have hg : badRune R = false := by unfold badRune; simp; omega
          rw [hg] at hf0
          have Hf : Hid (N = goodAll (runesL (s.data.toList.drop (pos + K)))) := by
            show N = _
            rw [hf0]; simp
          have ci := in_any Z 127 159 X
          have hd : (decide ((127 : Int) ≤ Z) && decide (Z ≤ 159)) = false := by
            simp; omega
          rw [hd] at ci
          clear hd hg hf0 h2 hZ
          go_wp2_with (go_at_call 26; refine ci.mono ?_; rintro e w1 ⟨rfl, rfl⟩)
          go_roundg g'
          case measure => omega
          case rel => exact ⟨pos + K, hit2, hbw2, by omega, Hf⟩
    · have hnx : ∀ ty, (Instr.next (.pointer (some ⟨w.heap.size, 0, none⟩)) true ty).run Tryd.prog wr = _ := fun ty => Lib.run_next_end_at wr (w.heap.size) s pos ty hit hp
      have hf0 := Hf.out
      rw [runesL_end s pos hp] at hf0
      have hN : N = true := hf0
      subst hN
      clear hf0 Hf
      have ci := in_any (s.size : Int) 1 60 wr
      have cV2 := cV wr (hT.below hbw)
      cases hin : (decide ((1 : Int) ≤ (s.size : Int)) && decide ((s.size : Int) ≤ 60))
      · rw [hin] at ci
        have HI := Lib.hid hin
        clear hin
        go_wp2_with (first | (go_at_call 26; refine ci.mono ?_; rintro e w1 ⟨rfl, rfl⟩))
        go_ret
        exact ⟨by rw [HI.out]; rfl, hbw⟩
      · rw [hin] at ci
        have HI := Lib.hid hin
        clear hin
        go_wp2_with (first | (go_at_call 26; refine ci.mono ?_; rintro e w1 ⟨rfl, rfl⟩) | (go_at_call 22; refine cV2.mono ?_; rintro e w2 ⟨rfl, hb2⟩))
        go_ret
        exact ⟨by rw [HI.out]; simp, hbw.trans (hb2.mono hbw.size)⟩

set_option maxRecDepth 100000 in
set_option maxHeartbeats 2000000 in
theorem bits_any (u n : Nat) (w : World) (hu : u < 65536) (hn : n ≤ 16) :
    Calls Tryd.prog 27 #[.int .i64 (u : Int), .int .i64 (n : Int)] w fun e w' => e = .returned (.string ⟨(bstr (bitsOf n u)).toArray⟩) ∧ Below w.heap.size w w' := by
  go_enter Tryd.func27, Tryd.ntmps27
  go_wp2_with fail
  go_loopg [0, 5, 7] n (fun g s0 s5 s7 wr => ∃ (k D : Nat) (S : List UInt8), k + g = n ∧ s7 = .int .i64 k ∧ s0 = .int .i64 D ∧ s5 = .string ⟨S.toArray⟩ ∧ D < 65536 ∧ S.length = k ∧ Below w.heap.size w wr ∧ Hid (D = u / 2 ^ k ∧ S = bstr (bitsOf k u)))
  case atStart => exact ⟨0, u, [], by omega, rfl, rfl, rfl, by omega, rfl, Below.refl _ _, by constructor <;> simp [bitsOf, bstr]⟩
  case round =>
    obtain ⟨k, D, S, hk, rfl, rfl, rfl, hD, hSl, hbw, Hf⟩ := hrel
    by_cases hlt : k < n
    · obtain ⟨g', rfl⟩ : ∃ g', gk = g' + 1 := ⟨gk - 1, by omega⟩
      have hS16 : S.length + 1 ≤ 1000 := by omega
      have hcc : ∀ x : UInt8, (⟨#[x]⟩ : ByteArray) ++ ⟨S.toArray⟩ = ⟨(x :: S).toArray⟩ := fun x => bstr_cat x S
      obtain ⟨x, hx, hx2⟩ : ∃ x : UInt8, (48 + (D : Int) % 2) = (x.toNat : Int) ∧ x = (if D % 2 == 1 then 49 else 48) := by
        have : D % 2 = 0 ∨ D % 2 = 1 := by omega
        rcases this with h | h
        · exact ⟨48, by show _ = (48 : Int); omega, by simp [h]⟩
        · exact ⟨49, by show _ = (49 : Int); omega, by simp [h]⟩
      have ec : ∀ W : World, (convert 34 9 (.slice (some ⟨W.heap.size, 0, none⟩) 1 1)).run Tryd.prog (W.alloc (.cells #[.int .u8 (x.toNat : Int)] 5)) = .ok (.string ⟨#[x]⟩) (W.alloc (.cells #[.int .u8 (x.toNat : Int)] 5)) := fun W => run_bytes_text (l := [x]) (Or.inr ⟨W.heap.size, 0, 1, rfl, by simp, by
        intro j u hj
        match j, hj with
        | 0, hj => simp [Lib.byteCells] at hj; subst hj; simp⟩) _ _ 5 Tryd.underlying34 Tryd.underlying5 Tryd.underlying9
      have ecw := ec wr
      have HX : Hid (x = (if D % 2 == 1 then 49 else 48)) := hx2
      have hxl := x.toNat_lt
      have hD2 : D / 2 < 65536 := by omega
      clear hx2 ec
      go_wp2_with fail
      go_roundg g'
      case measure => omega
      case rel => exact ⟨k + 1, D / 2, x :: S, by omega, by go_num, by go_num, rfl, hD2, by simp; omega, hbw.alloc hbw.size _, by
        obtain ⟨h1, h2⟩ := Hf.out
        have h3 := HX.out
        refine ⟨?_, ?_⟩
        · show D / 2 = _
          rw [h1, Nat.div_div_eq_div_mul, ← Nat.pow_succ]
        · show x :: S = _
          rw [h3, h2, h1]
          rfl⟩
    · have hkn : k = n := by omega
      have hres : S = bstr (bitsOf n u) := by rw [← hkn]; exact Hf.out.2
      have HR := Lib.hid hres
      clear hres
      go_wp2_with fail
      go_ret
      exact ⟨by have h := HR.out; subst h; rfl, hbw⟩
end Go.Proofs.YtkaagodacjgoaaaDoor
