/- The walk over the reference's Small: it returns the text in small letters. Condition: none. -/
import Derived.Test.YtiggekmhojlegaaGreatDoorRows
import Derived.Test.YtiggekmhojlegaaGreatDoorShelf
import Derived.Test.YtiggekmhojlegaaGreatDoorBytes
import Derived.Test.YtiggekmhojlegaaGreatDoorPHead
namespace Go.Proofs.YtiggekmhojlegaaGreatDoor
open Go.RowKit Go.Shelf

theorem byte_text (W : World) (x : UInt8) : (convert 60 9 (.slice (some ⟨W.heap.size, 0, none⟩) 1 1)).run Tryz.prog (W.alloc (.cells #[.int .u8 (x.toNat : Int)] 5)) = .ok (.string ⟨#[x]⟩) (W.alloc (.cells #[.int .u8 (x.toNat : Int)] 5)) :=
  run_bytes_text (l := [x]) (Or.inr ⟨W.heap.size, 0, 1, rfl, by simp, by
    intro j u hj
    match j, hj with
    | 0, hj => simp [Lib.byteCells] at hj; subst hj; simp⟩) _ _ 5 Tryz.underlying60 Tryz.underlying5 Tryz.underlying9
set_option maxRecDepth 100000 in
set_option maxHeartbeats 2000000 in
theorem rsmall_any (S : List UInt8) (w : World) (hs : S.length ≤ 1000000000) :
    Calls Tryz.prog 19 #[.string ⟨S.toArray⟩] w fun e w' => e = .returned (.string ⟨(smallL S).toArray⟩) ∧ Below w.heap.size w w' := by
  have hts := text_size S
  go_enter Tryz.func19, Tryz.ntmps19
  go_wp2_with fail
  go_loopg [3, 8] S.length (fun g s3 s8 wr => ∃ (k : Nat) (U : List UInt8), k + g = S.length ∧ s8 = .int .i64 k ∧ s3 = .string ⟨U.toArray⟩ ∧ U.length = k ∧ Below w.heap.size w wr ∧ Hid (U = (S.take k).map smallC))
  case atStart => exact ⟨0, [], by omega, rfl, rfl, rfl, Below.refl _ _, by show _ = _; simp⟩
  case round =>
    obtain ⟨k, U, hk, rfl, rfl, hU, hbr, Hf⟩ := hrel
    by_cases hlt : k < S.length
    · obtain ⟨g', rfl⟩ : ∃ g', gk = g' + 1 := ⟨gk - 1, by omega⟩
      obtain ⟨c, hc⟩ : ∃ c, S[k] = c := ⟨_, rfl⟩
      have hget : ∀ h, (⟨S.toArray⟩ : ByteArray)[k]'h = c := fun h => hc
      have hcl := c.toNat_lt
      have hstep : (S.take (k + 1)).map smallC = U ++ [smallC c] := by
        rw [List.take_add_one, List.getElem?_eq_getElem hlt, hc, List.map_append, ← Hf.out]; rfl
      have hts2 := text_size U
      have hcat := text_cat U [smallC c]
      have ec := fun W => byte_text W (smallC c)
      by_cases hA : 65 ≤ c.toNat ∧ c.toNat ≤ 90
      · have hf : smallC c = c + 32 := by unfold smallC; rw [if_pos hA]
        have hfn : (smallC c).toNat = c.toNat + 32 := by rw [hf, UInt8.toNat_add]; show (c.toNat + 32) % 256 = _; omega
        have hfi : ((smallC c).toNat : Int) = (c.toNat : Int) + 32 := by omega
        generalize smallC c = d at hstep hcat ec hf hfn hfi
        simp only [hfi] at ec
        obtain ⟨C, hC⟩ : ∃ C : Int, (c.toNat : Int) = C := ⟨_, rfl⟩
        rw [hC] at ec
        have hget2 : ∀ h, (((⟨S.toArray⟩ : ByteArray)[k]'h).toNat : Int) = C := fun h => by rw [hget h]; exact hC
        have h1 : 65 ≤ C := by omega
        have h2 : C ≤ 90 := by omega
        have HX : Hid ((S.take (k + 1)).map smallC = U ++ [d]) := hstep
        have ecw := ec wr
        clear hc hfn hf hA hC hcl hfi hget hstep ec
        go_wp2_with fail
        go_roundg g'
        case measure => omega
        case rel => exact ⟨k + 1, U ++ [d], by omega, by go_num, rfl, by simp; omega, hbr.alloc hbr.size _, HX.out.symm⟩
      · have hf : smallC c = c := by unfold smallC; rw [if_neg hA]
        rw [hf] at hstep hcat ec
        obtain ⟨C, hC⟩ : ∃ C : Int, (c.toNat : Int) = C := ⟨_, rfl⟩
        rw [hC] at ec
        have hget2 : ∀ h, (((⟨S.toArray⟩ : ByteArray)[k]'h).toNat : Int) = C := fun h => by rw [hget h]; exact hC
        have h12 : C < 65 ∨ 90 < C := by omega
        have HX : Hid ((S.take (k + 1)).map smallC = U ++ [c]) := hstep
        have ecw := ec wr
        have hc0 : 0 ≤ C := by omega
        have hc1 : C < 256 := by omega
        clear hc hf hA hC hcl hget hstep ec
        rcases h12 with h12 | h12
        · go_wp2_with fail
          go_roundg g'
          case measure => omega
          case rel => exact ⟨k + 1, U ++ [c], by omega, by go_num, rfl, by simp; omega, hbr.alloc hbr.size _, HX.out.symm⟩
        · have h65 : 65 ≤ C := by omega
          go_wp2_with fail
          go_roundg g'
          case measure => omega
          case rel => exact ⟨k + 1, U ++ [c], by omega, by go_num, rfl, by simp; omega, hbr.alloc hbr.size _, HX.out.symm⟩
    · have hres : U = smallL S := by rw [Hf.out, List.take_of_length_le (by omega)]; rfl
      clear Hf
      subst hres
      go_wp2_with fail
      go_ret
      exact ⟨rfl, hbr⟩

end Go.Proofs.YtiggekmhojlegaaGreatDoor
