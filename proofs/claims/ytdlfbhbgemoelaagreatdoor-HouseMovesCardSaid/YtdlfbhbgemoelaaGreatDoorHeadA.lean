/- The walks over head.Small, head.Great: each returns what its plain function says. No condition beyond those each names. -/
import Derived.Test.YtdlfbhbgemoelaaGreatDoorRows
import Derived.Test.YtdlfbhbgemoelaaGreatDoorBytes
import Derived.Test.YtdlfbhbgemoelaaGreatDoorPHead2
import Derived.Lib.ConvBytes
namespace Go.Proofs.YtdlfbhbgemoelaaGreatDoor
open Go.RowKit

set_option maxRecDepth 100000 in
set_option maxHeartbeats 1000000 in
theorem great_any (s : ByteArray) (w : World) (hs : s.size ≤ 1000000000) :
    Calls Tryz.prog 31 #[.string s] w fun e w' => e = .returned (.string ⟨(greatL s.data.toList).toArray⟩) ∧ Below w.heap.size w w' := by
  have hlen : s.data.toList.length = s.size := (Lib.size_eq s).symm
  have he := Lib.run_convert_string_bytes w 9 93 5 s Tryz.underlying9 Tryz.underlying93 Tryz.underlying5
  have hB := bytesAt_new w s
  have hb := bytesWorld_below w s
  have hsz : w.heap.size < (Lib.bytesWorld w 5 s).heap.size := by rw [Lib.bytesWorld_size]; omega
  generalize Lib.bytesWorld w 5 s = w1 at he hB hb hsz
  generalize grownCap w s.size 0 5 = cap at he
  go_enter Tryz.func31, Tryz.ntmps31
  go_wp2_with fail
  go_loopg [10] s.size (fun g s10 wr => ∃ (k : Nat), k + g = s.size ∧ s10 = .int .i64 k ∧ w.heap.size < wr.heap.size ∧ BytesAt wr w.heap.size ((s.data.toList.take k).map greatC ++ s.data.toList.drop k) ∧ Below w.heap.size w wr)
  case atStart => exact ⟨0, by omega, rfl, hsz, by simpa using hB, hb⟩
  case round =>
    obtain ⟨k, hk, rfl, hszr, hBr, hbr⟩ := hrel
    by_cases hlt : k < s.size
    · obtain ⟨g', rfl⟩ : ∃ g', gk = g' + 1 := ⟨gk - 1, by omega⟩
      obtain ⟨c, hc⟩ : ∃ c, s.data.toList[k]? = some c := ⟨s.data.toList[k], List.getElem?_eq_getElem (by omega)⟩
      have hcell := hBr.cell (map_cell (f := greatC) hc)
      have hfr := hBr.free (j := k) (by simp; omega)
      have hcl := c.toNat_lt
      by_cases hA : 97 ≤ c.toNat ∧ c.toNat ≤ 122
      · have hf : greatC c = c - 32 := by unfold greatC; rw [if_pos hA]
        have hfn : (greatC c).toNat = c.toNat - 32 := by rw [hf, UInt8.toNat_sub]; show (256 - 32 + c.toNat) % 256 = _; omega
        have hput := hBr.put k (greatC c)
        rw [← map_step hc, hfn] at hput
        have hbp := hbr.setCell (p := ⟨w.heap.size, k, none⟩) (Nat.le_refl _) (.int .u8 ((c.toNat - 32 : Nat) : Int))
        have hszp : w.heap.size < (wr.setCell ⟨w.heap.size, k, none⟩ (.int .u8 ((c.toNat - 32 : Nat) : Int))).heap.size := by simpa using hszr
        obtain ⟨C, hC⟩ : ∃ C : Int, (c.toNat : Int) = C := ⟨_, rfl⟩
        have hC2 : ((c.toNat - 32 : Nat) : Int) = C + 65 - 97 := by omega
        rw [hC] at hcell
        rw [hC2] at hput hbp hszp
        have h1 : 97 ≤ C := by omega
        have h2 : C ≤ 122 := by omega
        clear hc hfn hf hA hC hC2 hcl hBr
        go_wp2_with fail
        go_roundg g'
        case measure => omega
        case rel => exact ⟨k + 1, by omega, by go_num, hszp, hput, hbp⟩
      · have hf : greatC c = c := by unfold greatC; rw [if_neg hA]
        rw [← map_same hc hf] at hBr
        obtain ⟨C, hC⟩ : ∃ C : Int, (c.toNat : Int) = C := ⟨_, rfl⟩
        rw [hC] at hcell
        have h12 : C < 97 ∨ 122 < C := by omega
        clear hc hf hA hC hcl
        rcases h12 with h12 | h12
        · go_wp2_with fail
          go_roundg g'
          case measure => omega
          case rel => exact ⟨k + 1, by omega, by go_num, hszr, hBr, hbr⟩
        · have h97 : 97 ≤ C := by omega
          go_wp2_with fail
          go_roundg g'
          case measure => omega
          case rel => exact ⟨k + 1, by omega, by go_num, hszr, hBr, hbr⟩
    · have hk2 : k = s.size := by omega
      have hE : (s.data.toList.take k).map greatC ++ s.data.toList.drop k = greatL s.data.toList := by
        rw [List.take_of_length_le (by omega), List.drop_eq_nil_of_le (by omega), List.append_nil]; rfl
      rw [hE] at hBr
      have hrow := hBr.row hszr s.size cap (by simp [greatL, hlen])
      have hcv := run_bytes_text (P := Tryz.prog) hrow 93 9 5 Tryz.underlying93 Tryz.underlying5 Tryz.underlying9
      clear hE hBr hrow hk2 hk
      go_wp2_with fail
      go_ret
      exact ⟨rfl, hbr⟩
end Go.Proofs.YtdlfbhbgemoelaaGreatDoor
