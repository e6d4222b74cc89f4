/- The walks over flags.small, Name and what it calls: each returns what its plain function says. Conditions: flags.system lies as the program's text lays it. -/
import Derived.Test.YtdlfbhbgemoelaaGreatDoorRows
import Derived.Test.YtdlfbhbgemoelaaGreatDoorShelf
import Derived.Test.YtdlfbhbgemoelaaGreatDoorBytes
import Derived.Test.YtdlfbhbgemoelaaGreatDoorPFlags
import Derived.Shelf.Strings.SlTrimAscii
import Derived.Deep.RegionHeld3
namespace Go.Proofs.YtdlfbhbgemoelaaGreatDoor
open Go.RowKit Go.Shelf

set_option maxRecDepth 100000 in
set_option maxHeartbeats 1000000 in
theorem fsmall_any (s : ByteArray) (w : World) (hs : s.size ≤ 1000000000) :
    Calls Tryz.prog 98 #[.string s] w fun e w' => e = .returned (.string ⟨(smallL s.data.toList).toArray⟩) ∧ Below w.heap.size w w' := by
  have hlen : s.data.toList.length = s.size := (Lib.size_eq s).symm
  have he := Lib.run_convert_string_bytes w 9 93 5 s Tryz.underlying9 Tryz.underlying93 Tryz.underlying5
  have hB := bytesAt_new w s
  have hb := bytesWorld_below w s
  have hsz : w.heap.size < (Lib.bytesWorld w 5 s).heap.size := by rw [Lib.bytesWorld_size]; omega
  generalize Lib.bytesWorld w 5 s = w1 at he hB hb hsz
  generalize grownCap w s.size 0 5 = cap at he
  go_enter Tryz.func98, Tryz.ntmps98
  go_wp2_with fail
  go_loopg [10] s.size (fun g s10 wr => ∃ (k : Nat), k + g = s.size ∧ s10 = .int .i64 k ∧ w.heap.size < wr.heap.size ∧ BytesAt wr w.heap.size ((s.data.toList.take k).map smallC ++ s.data.toList.drop k) ∧ Below w.heap.size w wr)
  case atStart => exact ⟨0, by omega, rfl, hsz, by simpa using hB, hb⟩
  case round =>
    obtain ⟨k, hk, rfl, hszr, hBr, hbr⟩ := hrel
    by_cases hlt : k < s.size
    · obtain ⟨g', rfl⟩ : ∃ g', gk = g' + 1 := ⟨gk - 1, by omega⟩
      obtain ⟨c, hc⟩ : ∃ c, s.data.toList[k]? = some c := ⟨s.data.toList[k], List.getElem?_eq_getElem (by omega)⟩
      have hcell := hBr.cell (map_cell (f := smallC) hc)
      have hfr := hBr.free (j := k) (by simp; omega)
      have hcl := c.toNat_lt
      by_cases hA : 65 ≤ c.toNat ∧ c.toNat ≤ 90
      · have hf : smallC c = c + 32 := by unfold smallC; rw [if_pos hA]
        have hfn : (smallC c).toNat = c.toNat + 32 := by rw [hf, UInt8.toNat_add]; show (c.toNat + 32) % 256 = _; omega
        have hput := hBr.put k (smallC c)
        rw [← map_step hc, hfn] at hput
        have hbp := hbr.setCell (p := ⟨w.heap.size, k, none⟩) (Nat.le_refl _) (.int .u8 ((c.toNat + 32 : Nat) : Int))
        have hszp : w.heap.size < (wr.setCell ⟨w.heap.size, k, none⟩ (.int .u8 ((c.toNat + 32 : Nat) : Int))).heap.size := by simpa using hszr
        obtain ⟨C, hC⟩ : ∃ C : Int, (c.toNat : Int) = C := ⟨_, rfl⟩
        have hC2 : ((c.toNat + 32 : Nat) : Int) = C + 97 - 65 := by omega
        rw [hC] at hcell
        rw [hC2] at hput hbp hszp
        have h1 : 65 ≤ C := by omega
        have h2 : C ≤ 90 := by omega
        clear hc hfn hf hA hC hC2 hcl hBr
        go_wp2_with fail
        go_roundg g'
        case measure => omega
        case rel => exact ⟨k + 1, by omega, by go_num, hszp, hput, hbp⟩
      · have hf : smallC c = c := by unfold smallC; rw [if_neg hA]
        rw [← map_same hc hf] at hBr
        obtain ⟨C, hC⟩ : ∃ C : Int, (c.toNat : Int) = C := ⟨_, rfl⟩
        rw [hC] at hcell
        have h12 : C < 65 ∨ 90 < C := by omega
        clear hc hf hA hC hcl
        rcases h12 with h12 | h12
        · go_wp2_with fail
          go_roundg g'
          case measure => omega
          case rel => exact ⟨k + 1, by omega, by go_num, hszr, hBr, hbr⟩
        · have h65 : 65 ≤ C := by omega
          go_wp2_with fail
          go_roundg g'
          case measure => omega
          case rel => exact ⟨k + 1, by omega, by go_num, hszr, hBr, hbr⟩
    · have hk2 : k = s.size := by omega
      have hE : (s.data.toList.take k).map smallC ++ s.data.toList.drop k = smallL s.data.toList := by
        rw [List.take_of_length_le (by omega), List.drop_eq_nil_of_le (by omega), List.append_nil]; rfl
      rw [hE] at hBr
      have hrow := hBr.row hszr s.size cap (by simp [smallL, hlen])
      have hcv := run_bytes_text (P := Tryz.prog) hrow 93 9 5 Tryz.underlying93 Tryz.underlying5 Tryz.underlying9
      clear hE hBr hrow hk2 hk
      go_wp2_with fail
      go_ret
      exact ⟨rfl, hbr⟩

/-- the system's flags lie as the program's text lays them -/
def FlagG (w : World) : Prop := ∃ T, w.heap[4]? = some (.cells ((sysL.map fun t => Value.string ⟨t.toArray⟩).toArray) T (0, 0))
theorem FlagG.below {w w' : World} (h : FlagG w) (hb : Below w.heap.size w w') : FlagG w' := h.elim fun T h => ⟨T, below_same hb h⟩
theorem FlagG.cell {w : World} (h : FlagG w) {j : Nat} {t : List UInt8} (hj : sysL[j]? = some t) : w.cell? ⟨4, j, none⟩ = some (.string ⟨t.toArray⟩) := by
  obtain ⟨T, h⟩ := h
  rw [Lib.cell_of_heap h]
  simp [hj]
theorem sys_len {t : List UInt8} (h : t ∈ sysL) : t.length ≤ 9 := by
  have : sysL.all (fun t => decide (t.length ≤ 9)) = true := by decide
  simpa using List.all_eq_true.1 this t h

set_option maxRecDepth 100000 in
set_option maxHeartbeats 2000000 in
theorem fname1_any (t s : List UInt8) (B : Nat) (w : World) (ht : t.length ≤ 2000000) (hs : s.length ≤ 2000000) (hc : w.cell? ⟨B, 0, none⟩ = some (.string ⟨s.toArray⟩)) (hB : B < w.heap.size) :
    Calls Tryz.prog 97 #[.string ⟨t.toArray⟩, .pointer (some ⟨B, 0, none⟩)] w fun e w' => e = .returned (.bool (smallL t == smallL s)) ∧ Below w.heap.size w w' := by
  have cT := fun W => fsmall_any ⟨t.toArray⟩ W (by rw [text_size]; omega)
  have cS := fun W => fsmall_any ⟨s.toArray⟩ W (by rw [text_size]; omega)
  simp only [List.toList_toArray] at cT cS
  have y : Below w.heap.size w w.drew := (Below.refl _ _).drew
  have c : w.drew.cell? ⟨B, 0, none⟩ = some (.string ⟨s.toArray⟩) := hc
  go_enter Tryz.func97, Tryz.ntmps97
  go_wp2_with fail
  go_region_held3 (fun W => W.cell? ⟨B, 0, none⟩ = some (.string ⟨s.toArray⟩) ∧ Below w.heap.size w W)
    (first | exact ⟨c, y⟩)
    (first
      | (go_at_call 98; with_reducible refine (cT _).mono ?_; rintro e w1 ⟨rfl, h⟩; have c := (h.cell (p := ⟨B, 0, none⟩) (Nat.lt_of_lt_of_le hB y.size)).trans c; have y := y.trans (h.mono y.size))
      | (go_at_call 98; with_reducible refine (cS _).mono ?_; rintro e w1 ⟨rfl, h⟩; have c := (h.cell (p := ⟨B, 0, none⟩) (Nat.lt_of_lt_of_le hB y.size)).trans c; have y := y.trans (h.mono y.size)))
  go_wp2_with fail
  go_ret
  exact ⟨rfl, y⟩

/-- which of the system's flags is meant -/
def hitF (s t : List UInt8) : Bool := smallL t == smallL s
def IdxIs (s : List UInt8) (r : Int) : Prop := (r = -1 ∧ sysL.find? (hitF s) = none) ∨ ∃ (k : Nat) (t : List UInt8), r = (k : Int) ∧ k < 5 ∧ sysL[k]? = some t ∧ sysL.find? (hitF s) = some t

set_option maxRecDepth 100000 in
set_option maxHeartbeats 4000000 in
theorem fidx_any (s : List UInt8) (B : Nat) (w : World) (hs : s.length ≤ 2000000) (hc : w.cell? ⟨B, 0, none⟩ = some (.string ⟨s.toArray⟩)) (hB : B < w.heap.size) (hG : FlagG w) :
    Calls Tryz.prog 62 #[.slice (some ⟨4, 0, none⟩) 5 5, .func (.func 97) #[] #[.pointer (some ⟨B, 0, none⟩)]] w fun e w' => ∃ r : Int, e = .returned (.int .i64 r) ∧ IdxIs s r ∧ Below w.heap.size w w' := by
  go_enter Tryz.func62, Tryz.ntmps62
  go_wp2_with fail
  go_loopg [8] 5 (fun g8 s8 wr => ∃ (k : Nat), k + g8 = 5 ∧ s8 = .int .i64 (k : Int) ∧ Below w.heap.size w wr ∧ Hid (sysL.find? (hitF s) = (sysL.drop k).find? (hitF s)))
  case atStart => exact ⟨0, by omega, rfl, Below.refl _ _, rfl⟩
  case round =>
    obtain ⟨k, hk, rfl, hbr, HF⟩ := hrel
    by_cases hlt : k < 5
    · obtain ⟨g', rfl⟩ : ∃ g', gk = g' + 1 := ⟨gk - 1, by omega⟩
      obtain ⟨t, ht⟩ : ∃ t, sysL[k]? = some t := ⟨sysL[k]'hlt, List.getElem?_eq_getElem hlt⟩
      have hd := (hG.below hbr).cell ht
      have hdr : sysL.drop k = t :: sysL.drop (k + 1) := by
        rw [List.drop_eq_getElem_cons hlt]
        rw [List.getElem?_eq_getElem hlt] at ht
        rw [Option.some.inj ht]
      have hF := HF.out
      rw [hdr, List.find?_cons] at hF
      have htl := sys_len (List.mem_of_getElem? ht)
      have cN := fname1_any t s B wr (by omega) hs ((hbr.cell (p := ⟨B, 0, none⟩) hB).trans hc) (Nat.lt_of_lt_of_le hB hbr.size)
      have HT := Lib.hid ht
      cases hh : hitF s t with
      | true =>
        rw [hh] at hF
        have HF2 : Hid (sysL.find? (hitF s) = some t) := hF
        have hh2 : (smallL t == smallL s) = true := hh
        rw [hh2] at cN
        clear hF hdr ht hh hh2 HF
        go_wp2_with (go_at_call 97; with_reducible refine cN.mono ?_; rintro e w1 ⟨rfl, h⟩; have y := hbr.trans (h.mono hbr.size))
        go_ret
        exact ⟨(k : Int), rfl, Or.inr ⟨k, t, rfl, hlt, HT.out, HF2.out⟩, y⟩
      | false =>
        rw [hh] at hF
        have HF2 : Hid (sysL.find? (hitF s) = (sysL.drop (k + 1)).find? (hitF s)) := hF
        have hh2 : (smallL t == smallL s) = false := hh
        rw [hh2] at cN
        clear hF hdr ht hh hh2 HF
        go_wp2_with (go_at_call 97; with_reducible refine cN.mono ?_; rintro e w1 ⟨rfl, h⟩; have y := hbr.trans (h.mono hbr.size))
        go_roundg g'
        case measure => omega
        case rel => exact ⟨k + 1, by omega, by go_num, y, HF2.out⟩
    · have hF := HF.out
      obtain rfl : k = 5 := by omega
      have HF2 : Hid (sysL.find? (hitF s) = none) := hF
      clear hF HF
      go_wp2_with fail
      go_ret
      exact ⟨-1, rfl, Or.inl ⟨rfl, HF2.out⟩, hbr⟩
end Go.Proofs.YtdlfbhbgemoelaaGreatDoor
