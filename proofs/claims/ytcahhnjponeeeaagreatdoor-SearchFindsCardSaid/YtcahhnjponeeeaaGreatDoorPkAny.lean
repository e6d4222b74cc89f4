/- The walks over head.Small, head.Great: each returns what its plain function says. No condition beyond those each names. The walks over head.Get, head.Only: each returns what its plain function says. No condition beyond those each names. The walk over head.Only: it returns what its plain function says. No condition beyond those it names. The walks over strings.IndexRune, IndexAny, ContainsAny at a text of whatever bytes and letters below 128. No condition beyond those each names. -/
import Derived.Test.YtcahhnjponeeeaaGreatDoorRows
import Derived.Lib.ConvBytes
import Derived.Lib.RuneBytes
import Derived.Lib.MapLaws
import Derived.Lib.ValidU
import Derived.Laws.RangeString
import Derived.Laws.Cover4
import Derived.Lib.Hide
import Derived.Deep.RegionHeld3
import Derived.WalkMore
import Derived.StillTailTactics
import Derived.Test.YtcahhnjponeeeaaGreatDoorPkPSearch3
import Derived.Test.YtcahhnjponeeeaaGreatDoorPkShelf
import Derived.Test.YtcahhnjponeeeaaGreatDoorPkKit2
import Derived.Test.YtcahhnjponeeeaaGreatDoorPkSeqC
import Derived.Test.YtcahhnjponeeeaaGreatDoorPkFlagD
namespace Go.Proofs.YtcahhnjponeeeaaGreatDoor
open Go.RowKit
set_option maxRecDepth 100000 in
set_option maxHeartbeats 1000000 in
theorem small_any (s : ByteArray) (w : World) (hs : s.size ≤ 1000000000) :
    Calls Tryz.prog 24 #[.string s] w fun e w' => e = .returned (.string ⟨(smallL s.data.toList).toArray⟩) ∧ Below w.heap.size w w' := by
  have hlen : s.data.toList.length = s.size := (Lib.size_eq s).symm
  have he := Lib.run_convert_string_bytes w 9 110 5 s Tryz.underlying9 Tryz.underlying110 Tryz.underlying5
  have hB := bytesAt_new w s
  have hb := bytesWorld_below w s
  have hsz : w.heap.size < (Lib.bytesWorld w 5 s).heap.size := by rw [Lib.bytesWorld_size]; omega
  generalize Lib.bytesWorld w 5 s = w1 at he hB hb hsz
  generalize grownCap w s.size 0 5 = cap at he
  go_enter Tryz.func24, Tryz.ntmps24
  go_wp2_with fail
  go_loopg [10] s.size (fun g s10 wr => ∃ (k : Nat), k + g = s.size ∧ s10 = .int .i64 k ∧ w.heap.size < wr.heap.size ∧ BytesAt wr w.heap.size ((s.data.toList.take k).map smallC ++ s.data.toList.drop k) ∧ Below w.heap.size w wr)
  case atStart => exact ⟨0, by omega, rfl, hsz, by simpa using hB, hb⟩
  case round =>
    obtain ⟨k, hk, rfl, hszr, hBr, hbr⟩ := hrel
    by_cases hlt : k < s.size
    · obtain ⟨g', rfl⟩ : ∃ g', gk = g' + 1 := ⟨gk - 1, by omega⟩
      obtain ⟨c, hc⟩ : ∃ c, s.data.toList[k]? = some c := ⟨s.data.toList[k], List.getElem?_eq_getElem (by omega)⟩
      have hcell := hBr.cell (map_cell (f := smallC) hc)
      have hfr := hBr.free (j := k) (by simp; omega)
      have hcl := c.toNat_lt
      by_cases hA : 65 ≤ c.toNat ∧ c.toNat ≤ 90
      · have hf : smallC c = c + 32 := by unfold smallC; rw [if_pos hA]
        have hfn : (smallC c).toNat = c.toNat + 32 := by rw [hf, UInt8.toNat_add]; show (c.toNat + 32) % 256 = _; omega
        have hput := hBr.put k (smallC c)
        rw [← map_step hc, hfn] at hput
        have hbp := hbr.setCell (p := ⟨w.heap.size, k, none⟩) (Nat.le_refl _) (.int .u8 ((c.toNat + 32 : Nat) : Int))
        have hszp : w.heap.size < (wr.setCell ⟨w.heap.size, k, none⟩ (.int .u8 ((c.toNat + 32 : Nat) : Int))).heap.size := by simpa using hszr
        obtain ⟨C, hC⟩ : ∃ C : Int, (c.toNat : Int) = C := ⟨_, rfl⟩
        have hC2 : ((c.toNat + 32 : Nat) : Int) = C + 97 - 65 := by omega
        rw [hC] at hcell
        rw [hC2] at hput hbp hszp
        have h1 : 65 ≤ C := by omega
        have h2 : C ≤ 90 := by omega
        clear hc hfn hf hA hC hC2 hcl hBr
        go_wp2_with fail
        go_roundg g'
        case measure => omega
        case rel => exact ⟨k + 1, by omega, by go_num, hszp, hput, hbp⟩
      · have hf : smallC c = c := by unfold smallC; rw [if_neg hA]
        rw [← map_same hc hf] at hBr
        obtain ⟨C, hC⟩ : ∃ C : Int, (c.toNat : Int) = C := ⟨_, rfl⟩
        rw [hC] at hcell
        have h12 : C < 65 ∨ 90 < C := by omega
        clear hc hf hA hC hcl
        rcases h12 with h12 | h12
        · go_wp2_with fail
          go_roundg g'
          case measure => omega
          case rel => exact ⟨k + 1, by omega, by go_num, hszr, hBr, hbr⟩
        · have h65 : 65 ≤ C := by omega
          go_wp2_with fail
          go_roundg g'
          case measure => omega
          case rel => exact ⟨k + 1, by omega, by go_num, hszr, hBr, hbr⟩
    · have hk2 : k = s.size := by omega
      have hE : (s.data.toList.take k).map smallC ++ s.data.toList.drop k = smallL s.data.toList := by
        rw [List.take_of_length_le (by omega), List.drop_eq_nil_of_le (by omega), List.append_nil]; rfl
      rw [hE] at hBr
      have hrow := hBr.row hszr s.size cap (by simp [smallL, hlen])
      have hcv := run_bytes_text (P := Tryz.prog) hrow 110 9 5 Tryz.underlying110 Tryz.underlying5 Tryz.underlying9
      clear hE hBr hrow hk2 hk
      go_wp2_with fail
      go_ret
      exact ⟨rfl, hbr⟩
set_option maxRecDepth 100000 in
set_option maxHeartbeats 1000000 in
theorem great_any (s : ByteArray) (w : World) (hs : s.size ≤ 1000000000) :
    Calls Tryz.prog 76 #[.string s] w fun e w' => e = .returned (.string ⟨(greatL s.data.toList).toArray⟩) ∧ Below w.heap.size w w' := by
  have hlen : s.data.toList.length = s.size := (Lib.size_eq s).symm
  have he := Lib.run_convert_string_bytes w 9 110 5 s Tryz.underlying9 Tryz.underlying110 Tryz.underlying5
  have hB := bytesAt_new w s
  have hb := bytesWorld_below w s
  have hsz : w.heap.size < (Lib.bytesWorld w 5 s).heap.size := by rw [Lib.bytesWorld_size]; omega
  generalize Lib.bytesWorld w 5 s = w1 at he hB hb hsz
  generalize grownCap w s.size 0 5 = cap at he
  go_enter Tryz.func76, Tryz.ntmps76
  go_wp2_with fail
  go_loopg [10] s.size (fun g s10 wr => ∃ (k : Nat), k + g = s.size ∧ s10 = .int .i64 k ∧ w.heap.size < wr.heap.size ∧ BytesAt wr w.heap.size ((s.data.toList.take k).map greatC ++ s.data.toList.drop k) ∧ Below w.heap.size w wr)
  case atStart => exact ⟨0, by omega, rfl, hsz, by simpa using hB, hb⟩
  case round =>
    obtain ⟨k, hk, rfl, hszr, hBr, hbr⟩ := hrel
    by_cases hlt : k < s.size
    · obtain ⟨g', rfl⟩ : ∃ g', gk = g' + 1 := ⟨gk - 1, by omega⟩
      obtain ⟨c, hc⟩ : ∃ c, s.data.toList[k]? = some c := ⟨s.data.toList[k], List.getElem?_eq_getElem (by omega)⟩
      have hcell := hBr.cell (map_cell (f := greatC) hc)
      have hfr := hBr.free (j := k) (by simp; omega)
      have hcl := c.toNat_lt
      by_cases hA : 97 ≤ c.toNat ∧ c.toNat ≤ 122
      · have hf : greatC c = c - 32 := by unfold greatC; rw [if_pos hA]
        have hfn : (greatC c).toNat = c.toNat - 32 := by rw [hf, UInt8.toNat_sub]; show (256 - 32 + c.toNat) % 256 = _; omega
        have hput := hBr.put k (greatC c)
        rw [← map_step hc, hfn] at hput
        have hbp := hbr.setCell (p := ⟨w.heap.size, k, none⟩) (Nat.le_refl _) (.int .u8 ((c.toNat - 32 : Nat) : Int))
        have hszp : w.heap.size < (wr.setCell ⟨w.heap.size, k, none⟩ (.int .u8 ((c.toNat - 32 : Nat) : Int))).heap.size := by simpa using hszr
        obtain ⟨C, hC⟩ : ∃ C : Int, (c.toNat : Int) = C := ⟨_, rfl⟩
        have hC2 : ((c.toNat - 32 : Nat) : Int) = C + 65 - 97 := by omega
        rw [hC] at hcell
        rw [hC2] at hput hbp hszp
        have h1 : 97 ≤ C := by omega
        have h2 : C ≤ 122 := by omega
        clear hc hfn hf hA hC hC2 hcl hBr
        go_wp2_with fail
        go_roundg g'
        case measure => omega
        case rel => exact ⟨k + 1, by omega, by go_num, hszp, hput, hbp⟩
      · have hf : greatC c = c := by unfold greatC; rw [if_neg hA]
        rw [← map_same hc hf] at hBr
        obtain ⟨C, hC⟩ : ∃ C : Int, (c.toNat : Int) = C := ⟨_, rfl⟩
        rw [hC] at hcell
        have h12 : C < 97 ∨ 122 < C := by omega
        clear hc hf hA hC hcl
        rcases h12 with h12 | h12
        · go_wp2_with fail
          go_roundg g'
          case measure => omega
          case rel => exact ⟨k + 1, by omega, by go_num, hszr, hBr, hbr⟩
        · have h97 : 97 ≤ C := by omega
          go_wp2_with fail
          go_roundg g'
          case measure => omega
          case rel => exact ⟨k + 1, by omega, by go_num, hszr, hBr, hbr⟩
    · have hk2 : k = s.size := by omega
      have hE : (s.data.toList.take k).map greatC ++ s.data.toList.drop k = greatL s.data.toList := by
        rw [List.take_of_length_le (by omega), List.drop_eq_nil_of_le (by omega), List.append_nil]; rfl
      rw [hE] at hBr
      have hrow := hBr.row hszr s.size cap (by simp [greatL, hlen])
      have hcv := run_bytes_text (P := Tryz.prog) hrow 110 9 5 Tryz.underlying110 Tryz.underlying5 Tryz.underlying9
      clear hE hBr hrow hk2 hk
      go_wp2_with fail
      go_ret
      exact ⟨rfl, hbr⟩
end Go.Proofs.YtcahhnjponeeeaaGreatDoor
namespace Go.Proofs.YtcahhnjponeeeaaGreatDoor
open Go.RowKit
abbrev T (l : List UInt8) : ByteArray := ⟨l.toArray⟩
/-- a slice value that reads as a list of fields -/
def FldRow (W : World) (v : Value) (l : List Fld) : Prop :=
  (v = .slice none 0 0 ∧ l = []) ∨ ∃ b off cap, v = .slice (some ⟨b, off, none⟩) l.length cap ∧ b < W.heap.size ∧ ∀ (j : Nat) (f : Fld), l[j]? = some f → W.cell? ⟨b, off + j * 2, none⟩ = some (.string ⟨f.1.toArray⟩) ∧ W.cell? ⟨b, off + j * 2 + 1, none⟩ = some (.string ⟨f.2.toArray⟩)
theorem FldRow.below {W W' : World} {v : Value} {l : List Fld} (h : FldRow W v l) (hb : Below W.heap.size W W') : FldRow W' v l := by
  rcases h with h | ⟨b, off, cap, rfl, hlt, hc⟩
  · exact Or.inl h
  · exact Or.inr ⟨b, off, cap, rfl, Nat.lt_of_lt_of_le hlt hb.size, fun j f hj => ⟨(hb.cell (p := ⟨b, off + j * 2, none⟩) hlt).trans (hc j f hj).1, (hb.cell (p := ⟨b, off + j * 2 + 1, none⟩) hlt).trans (hc j f hj).2⟩⟩
/-- texts of a list of fields that are no longer than so much -/
def Lens (l : List Fld) : Prop := l.length ≤ 100000 ∧ ∀ f ∈ l, f.1.length ≤ 100000000 ∧ f.2.length ≤ 100000000
end Go.Proofs.YtcahhnjponeeeaaGreatDoor
namespace Go.Proofs.YtcahhnjponeeeaaGreatDoor
open Go.RowKit
def fldCells (l : List Fld) : List Value := l.flatMap fun f => [Value.string ⟨f.1.toArray⟩, Value.string ⟨f.2.toArray⟩]
theorem fldCells_snoc (l : List Fld) (f : Fld) : fldCells l ++ [Value.string ⟨f.1.toArray⟩, Value.string ⟨f.2.toArray⟩] = fldCells (l ++ [f]) := by simp [fldCells]
theorem fldCells_at : ∀ (l : List Fld) (j : Nat) (f : Fld), l[j]? = some f → (fldCells l)[j * 2]? = some (Value.string ⟨f.1.toArray⟩) ∧ (fldCells l)[j * 2 + 1]? = some (Value.string ⟨f.2.toArray⟩)
  | g :: l, 0, f, h => by simp at h; subst h; exact ⟨rfl, rfl⟩
  | g :: l, j + 1, f, h => by
    have := fldCells_at l j f (by simpa using h)
    rw [show (j + 1) * 2 = j * 2 + 1 + 1 by omega]
    exact this
theorem fldRow_of_owns {w : World} {B : Nat} {e : TypeId} {v : Value} {l : List Fld} (h : w.ownsRow B e 2 v l.length (fldCells l)) : FldRow w v l := by
  rcases h.2 with ⟨rfl, h0⟩ | ⟨g, cap, cur, rfl, _, hh, _⟩
  · exact Or.inl ⟨rfl, List.eq_nil_of_length_eq_zero h0⟩
  · refine Or.inr ⟨g, 0, cap, rfl, (Array.getElem?_eq_some_iff.1 hh).1, ?_⟩
    intro j f hj
    have hl : j < l.length := (List.getElem?_eq_some_iff.1 hj).1
    obtain ⟨c1, c2⟩ := fldCells_at l j f hj
    rw [Nat.zero_add]
    exact ⟨(h.cellAt _ (by omega)).trans c1, (h.cellAt _ (by omega)).trans c2⟩
theorem owns_slice' {w : World} {B : Nat} {e : TypeId} {sz : Nat} {v : Value} {n : Nat} {xs : List Value} (h : w.ownsRow B e sz v n xs) : ∃ ao cap, v = .slice ao n cap ∧ (0 < n → ∃ g, ao = some ⟨g, 0, none⟩) := by
  rcases h.2 with ⟨rfl, rfl⟩ | ⟨g, cap, cur, rfl, _⟩
  · exact ⟨none, 0, rfl, fun h => absurd h (by decide)⟩
  · exact ⟨_, _, rfl, fun _ => ⟨g, rfl⟩⟩
theorem fld_info : (Tryz.prog.info? 74).map (fun i => (i.zero, i.size, i.bytes)) = some (some (.agg #[.string ByteArray.empty, .string ByteArray.empty]), 2, 32) := by kernel_rfl
end Go.Proofs.YtcahhnjponeeeaaGreatDoor
namespace Go.Proofs.YtcahhnjponeeeaaGreatDoor
open Go.RowKit Go.Shelf
theorem enc_cases {r : Int} (h : 128 ≤ r) : (∃ a b, Lib.encodeRune r = [a, b] ∧ 128 ≤ b.toNat) ∨ (∃ a b c, Lib.encodeRune r = [a, b, c] ∧ 128 ≤ c.toNat) ∨ (∃ a b c d, Lib.encodeRune r = [a, b, c, d] ∧ 128 ≤ d.toNat) := by
  have key : ∀ x : Int, 128 ≤ x → x < 256 → 128 ≤ (x.toNat.toUInt8).toNat := by
    intro x h1 h2
    have : (x.toNat.toUInt8).toNat = x.toNat % 256 := by simp
    omega
  unfold Lib.encodeRune
  by_cases h2 : r ≤ 2047
  · left
    rw [Lib.encodeRuneZ_two h h2]
    exact ⟨_, _, rfl, key _ (by omega) (by omega)⟩
  · by_cases h3 : (2048 ≤ r ∧ r < 55296) ∨ (57343 < r ∧ r ≤ 65535)
    · right; left
      rw [Lib.encodeRuneZ_three h3]
      exact ⟨_, _, _, rfl, key _ (by omega) (by omega)⟩
    · by_cases h4 : 65536 ≤ r ∧ r ≤ 1114111
      · right; right
        rw [Lib.encodeRuneZ_four h4.1 h4.2]
        exact ⟨_, _, _, _, rfl, key _ (by omega) (by omega)⟩
      · right; left
        rw [Lib.encodeRuneZ_bad (by omega)]
        exact ⟨_, _, _, rfl, by decide⟩
theorem noIndex {l : List UInt8} {x : UInt8} (h : ∀ y ∈ l, y.toNat < 128) (hx : 128 ≤ x.toNat) : Lib.indexByte l x = -1 := by
  induction l with
  | nil => rfl
  | cons a l ih =>
    have h1 : a ≠ x := by
      intro e; have := h a (by simp); rw [e] at this; omega
    have h2 := ih (fun y hy => h y (by simp [hy]))
    rw [Lib.indexByte, if_neg (by simpa using h1), h2]; rfl
theorem part_low {s : ByteArray} (h : ∀ y ∈ s.data.toList, y.toNat < 128) (a b : Nat) : ∀ y ∈ (s.extract a b).data.toList, y.toNat < 128 := by
  intro y hy
  rw [ByteArray.data_extract, Array.toList_extract] at hy
  exact h y (List.mem_of_mem_drop (List.mem_of_mem_take hy))
theorem encode_rune (r : Nat) : Utf8.encode (r : Int) = ⟨(Lib.encodeRune (r : Int)).toArray⟩ := by
  have hb : ∀ n : Nat, n < 256 → (n : Int).toNat.toUInt8 = UInt8.ofNat n := fun n _ => by simp
  unfold Utf8.encode Lib.encodeRune
  by_cases h1 : r < 128
  · have hv : Utf8.valid (r : Int) = true := by unfold Utf8.valid; simp; omega
    rw [Lib.encodeRuneZ_one (by omega) (by omega)]
    simp only [hv, if_true, Int.toNat_natCast]
    rw [if_pos (by omega)]
    simp
  · by_cases h2 : r < 2048
    · have hv : Utf8.valid (r : Int) = true := by unfold Utf8.valid; simp; omega
      rw [Lib.encodeRuneZ_two (by omega) (by omega)]
      simp only [hv, if_true, Int.toNat_natCast]
      rw [if_neg (by omega), if_pos (by omega)]
      simp only [List.map_cons, List.map_nil]
      congr 4 <;> omega
    · by_cases h3 : r < 55296 ∨ (57343 < r ∧ r ≤ 65535)
      · have hv : Utf8.valid (r : Int) = true := by unfold Utf8.valid; simp; omega
        rw [Lib.encodeRuneZ_three (by omega)]
        simp only [hv, if_true, Int.toNat_natCast]
        rw [if_neg (by omega), if_neg (by omega), if_pos (by omega)]
        simp only [List.map_cons, List.map_nil]
        congr 5 <;> omega
      · by_cases h4 : 65536 ≤ r ∧ r ≤ 1114111
        · have hv : Utf8.valid (r : Int) = true := by unfold Utf8.valid; simp; omega
          rw [Lib.encodeRuneZ_four (by omega) (by omega)]
          simp only [hv, if_true, Int.toNat_natCast]
          rw [if_neg (by omega), if_neg (by omega), if_neg (by omega)]
          simp only [List.map_cons, List.map_nil]
          congr 6 <;> omega
        · have hv : Utf8.valid (r : Int) = false := by unfold Utf8.valid; simp; omega
          rw [Lib.encodeRuneZ_bad (by omega)]
          simp only [hv, Bool.false_eq_true, if_false]
          rfl
theorem conv_rune (n : Nat) (Z : Int) (hZ : (n : Int) = Z) (W : World) : (convert 21 9 (.int .i32 Z)).run Tryz.prog W = .ok (.string ⟨(Lib.encodeRune (n : Int)).toArray⟩) W := by
  rw [run_convert_int_string W 21 9 .i32 Z (by kernel_rfl) Tryz.underlying9, ← hZ, encode_rune]
set_option maxRecDepth 1000000 in
set_option maxHeartbeats 2000000 in
theorem rune_high1 (s : ByteArray) (r : Int) (w : World) (h1 : 128 ≤ r) (h3 : r ≤ 1114111) (hne : r ≠ 65533) (hv : Lib.validRune r = true) (hs : s.size ≤ 1000000) (hl : ∀ y ∈ s.data.toList, y.toNat < 128) (a x : UInt8) (hE : Lib.encodeRune r = [a, x]) (hx : 128 ≤ x.toNat) :
    Calls Tryz.prog 112 #[.string s, .int .i32 r] w fun e w' => e = .returned (.int .i64 (-1)) ∧ Below w.heap.size w w' := by
  have hcv := fun W => conv_rune r.toNat r (by omega) W
  rw [show ((r.toNat : Nat) : Int) = r by omega, hE] at hcv
  have cV := Tryz.utf8_ValidRune r w
  rw [hv] at cV
  have hxb : ((x.toNat : Int)).toNat.toUInt8 = x := by simp
  have cI : ∀ (a b : Nat) W, Calls Tryz.prog 62 #[.string (s.extract a b), .int .u8 (x.toNat : Int)] W fun e w' => e = .returned (.int .i64 (-1)) ∧ Below W.heap.size W w' := fun a b W => by
    have := Tryz.strings_IndexByte (s.extract a b) (x.toNat : Int) W
    rw [hxb, noIndex (part_low hl a b) hx] at this
    exact this.mono fun e w' ⟨h1, h2⟩ => ⟨h1, h2 ▸ Below.refl _ _⟩
  have hxl := x.toNat_lt
  have hget : ∀ h, ({ data := #[a, x] } : ByteArray)[1]'h = x := fun _ => rfl
  have hr5 : (r == 65533) = false := by simpa using hne
  clear hv hE hxb hne
  by_cases hk : 1 < s.size
  · have hyl : (s[1]'hk).toNat < 128 := hl _ (List.mem_of_getElem? (Lib.data_getElem? s 1 hk))
    have hneq : (((s[1]'hk).toNat : Int) != (x.toNat : Int)) = true := by rw [bne_iff_ne]; omega
    have hk2 : (2 : Int) ≤ (s.size : Int) := by omega
    have hsl : ∀ W : World, (Instr.slice 9 (.string s) (some (.int .i64 2)) none none).run Tryz.prog W = .ok (.string (s.extract 2 s.size)) W := fun W => by
      rw [run_slice_string_from_if W 9 s .i64 2 Tryz.underlying9, if_pos (by constructor <;> omega)]; rfl
    clear hl
    go_enter Tryz.func112, Tryz.ntmps112
    go_wp2_with (first
      | (go_at_call 138; with_reducible refine cV.mono ?_; rintro e w1 ⟨rfl, hw⟩; rw [hw]; clear hw))
    go_step3
    go_wp2_with fail
    go_loopg [9] 0 (fun g s9 wr => s9 = .int .i64 1 ∧ wr = w)
    case atStart => exact ⟨rfl, rfl⟩
    case round =>
      obtain ⟨rfl, rfl⟩ := hrel
      go_wp2_with fail
      go_step3
      go_wp2_with fail
      go_region
      go_wp2_with fail
      have hwr : IntKind.i64.wrap 2 = 2 := by decide
      go_still_tail 7, (by kernel_rfl)
      change wpList _ _ _ _ _ wr.drew.drew
      go_wp2_with (first
        | (go_at_call 62; with_reducible refine (cI _ _ _).mono ?_; rintro e w1 ⟨rfl, hb⟩))
      go_wp2_with fail
      simp only [Exit.noGoto, Exit.inBlock, Exit.then]
      go_ret
      exact ⟨rfl, ((Below.refl _ wr).drew.drew).trans hb⟩
  · clear hl
    go_enter Tryz.func112, Tryz.ntmps112
    go_wp2_with (first
      | (go_at_call 138; with_reducible refine cV.mono ?_; rintro e w1 ⟨rfl, hw⟩; rw [hw]; clear hw))
    go_step3
    go_wp2_with fail
    go_loopg [9] 0 (fun g s9 wr => s9 = .int .i64 1 ∧ wr = w)
    case atStart => exact ⟨rfl, rfl⟩
    case round =>
      obtain ⟨rfl, rfl⟩ := hrel
      go_wp2_with fail
      simp only [Exit.noGoto, Exit.inBlock, Exit.then]
      go_ret
      exact ⟨rfl, Below.refl _ _⟩
set_option maxRecDepth 1000000 in
set_option maxHeartbeats 2000000 in
theorem rune_high2 (s : ByteArray) (r : Int) (w : World) (h1 : 128 ≤ r) (h3 : r ≤ 1114111) (hne : r ≠ 65533) (hv : Lib.validRune r = true) (hs : s.size ≤ 1000000) (hl : ∀ y ∈ s.data.toList, y.toNat < 128) (a b x : UInt8) (hE : Lib.encodeRune r = [a, b, x]) (hx : 128 ≤ x.toNat) :
    Calls Tryz.prog 112 #[.string s, .int .i32 r] w fun e w' => e = .returned (.int .i64 (-1)) ∧ Below w.heap.size w w' := by
  have hcv := fun W => conv_rune r.toNat r (by omega) W
  rw [show ((r.toNat : Nat) : Int) = r by omega, hE] at hcv
  have cV := Tryz.utf8_ValidRune r w
  rw [hv] at cV
  have hxb : ((x.toNat : Int)).toNat.toUInt8 = x := by simp
  have cI : ∀ (a b : Nat) W, Calls Tryz.prog 62 #[.string (s.extract a b), .int .u8 (x.toNat : Int)] W fun e w' => e = .returned (.int .i64 (-1)) ∧ Below W.heap.size W w' := fun a b W => by
    have := Tryz.strings_IndexByte (s.extract a b) (x.toNat : Int) W
    rw [hxb, noIndex (part_low hl a b) hx] at this
    exact this.mono fun e w' ⟨h1, h2⟩ => ⟨h1, h2 ▸ Below.refl _ _⟩
  have hxl := x.toNat_lt
  have hget : ∀ h, ({ data := #[a, b, x] } : ByteArray)[2]'h = x := fun _ => rfl
  have hr5 : (r == 65533) = false := by simpa using hne
  clear hv hE hxb hne
  by_cases hk : 2 < s.size
  · have hyl : (s[2]'hk).toNat < 128 := hl _ (List.mem_of_getElem? (Lib.data_getElem? s 2 hk))
    have hneq : (((s[2]'hk).toNat : Int) != (x.toNat : Int)) = true := by rw [bne_iff_ne]; omega
    have hk2 : (3 : Int) ≤ (s.size : Int) := by omega
    have hsl : ∀ W : World, (Instr.slice 9 (.string s) (some (.int .i64 3)) none none).run Tryz.prog W = .ok (.string (s.extract 3 s.size)) W := fun W => by
      rw [run_slice_string_from_if W 9 s .i64 3 Tryz.underlying9, if_pos (by constructor <;> omega)]; rfl
    clear hl
    go_enter Tryz.func112, Tryz.ntmps112
    go_wp2_with (first
      | (go_at_call 138; with_reducible refine cV.mono ?_; rintro e w1 ⟨rfl, hw⟩; rw [hw]; clear hw))
    go_step3
    go_wp2_with fail
    go_loopg [9] 0 (fun g s9 wr => s9 = .int .i64 2 ∧ wr = w)
    case atStart => exact ⟨rfl, rfl⟩
    case round =>
      obtain ⟨rfl, rfl⟩ := hrel
      go_wp2_with fail
      go_step3
      go_wp2_with fail
      go_region
      go_wp2_with fail
      have hwr : IntKind.i64.wrap 3 = 3 := by decide
      go_still_tail 7, (by kernel_rfl)
      change wpList _ _ _ _ _ wr.drew.drew
      go_wp2_with (first
        | (go_at_call 62; with_reducible refine (cI _ _ _).mono ?_; rintro e w1 ⟨rfl, hb⟩))
      go_wp2_with fail
      simp only [Exit.noGoto, Exit.inBlock, Exit.then]
      go_ret
      exact ⟨rfl, ((Below.refl _ wr).drew.drew).trans hb⟩
  · clear hl
    go_enter Tryz.func112, Tryz.ntmps112
    go_wp2_with (first
      | (go_at_call 138; with_reducible refine cV.mono ?_; rintro e w1 ⟨rfl, hw⟩; rw [hw]; clear hw))
    go_step3
    go_wp2_with fail
    go_loopg [9] 0 (fun g s9 wr => s9 = .int .i64 2 ∧ wr = w)
    case atStart => exact ⟨rfl, rfl⟩
    case round =>
      obtain ⟨rfl, rfl⟩ := hrel
      go_wp2_with fail
      simp only [Exit.noGoto, Exit.inBlock, Exit.then]
      go_ret
      exact ⟨rfl, Below.refl _ _⟩
set_option maxRecDepth 1000000 in
set_option maxHeartbeats 2000000 in
theorem rune_high3 (s : ByteArray) (r : Int) (w : World) (h1 : 128 ≤ r) (h3 : r ≤ 1114111) (hne : r ≠ 65533) (hv : Lib.validRune r = true) (hs : s.size ≤ 1000000) (hl : ∀ y ∈ s.data.toList, y.toNat < 128) (a b c x : UInt8) (hE : Lib.encodeRune r = [a, b, c, x]) (hx : 128 ≤ x.toNat) :
    Calls Tryz.prog 112 #[.string s, .int .i32 r] w fun e w' => e = .returned (.int .i64 (-1)) ∧ Below w.heap.size w w' := by
  have hcv := fun W => conv_rune r.toNat r (by omega) W
  rw [show ((r.toNat : Nat) : Int) = r by omega, hE] at hcv
  have cV := Tryz.utf8_ValidRune r w
  rw [hv] at cV
  have hxb : ((x.toNat : Int)).toNat.toUInt8 = x := by simp
  have cI : ∀ (a b : Nat) W, Calls Tryz.prog 62 #[.string (s.extract a b), .int .u8 (x.toNat : Int)] W fun e w' => e = .returned (.int .i64 (-1)) ∧ Below W.heap.size W w' := fun a b W => by
    have := Tryz.strings_IndexByte (s.extract a b) (x.toNat : Int) W
    rw [hxb, noIndex (part_low hl a b) hx] at this
    exact this.mono fun e w' ⟨h1, h2⟩ => ⟨h1, h2 ▸ Below.refl _ _⟩
  have hxl := x.toNat_lt
  have hget : ∀ h, ({ data := #[a, b, c, x] } : ByteArray)[3]'h = x := fun _ => rfl
  have hr5 : (r == 65533) = false := by simpa using hne
  clear hv hE hxb hne
  by_cases hk : 3 < s.size
  · have hyl : (s[3]'hk).toNat < 128 := hl _ (List.mem_of_getElem? (Lib.data_getElem? s 3 hk))
    have hneq : (((s[3]'hk).toNat : Int) != (x.toNat : Int)) = true := by rw [bne_iff_ne]; omega
    have hk2 : (4 : Int) ≤ (s.size : Int) := by omega
    have hsl : ∀ W : World, (Instr.slice 9 (.string s) (some (.int .i64 4)) none none).run Tryz.prog W = .ok (.string (s.extract 4 s.size)) W := fun W => by
      rw [run_slice_string_from_if W 9 s .i64 4 Tryz.underlying9, if_pos (by constructor <;> omega)]; rfl
    clear hl
    go_enter Tryz.func112, Tryz.ntmps112
    go_wp2_with (first
      | (go_at_call 138; with_reducible refine cV.mono ?_; rintro e w1 ⟨rfl, hw⟩; rw [hw]; clear hw))
    go_step3
    go_wp2_with fail
    go_loopg [9] 0 (fun g s9 wr => s9 = .int .i64 3 ∧ wr = w)
    case atStart => exact ⟨rfl, rfl⟩
    case round =>
      obtain ⟨rfl, rfl⟩ := hrel
      go_wp2_with fail
      go_step3
      go_wp2_with fail
      go_region
      go_wp2_with fail
      have hwr : IntKind.i64.wrap 4 = 4 := by decide
      go_still_tail 7, (by kernel_rfl)
      change wpList _ _ _ _ _ wr.drew.drew
      go_wp2_with (first
        | (go_at_call 62; with_reducible refine (cI _ _ _).mono ?_; rintro e w1 ⟨rfl, hb⟩))
      go_wp2_with fail
      simp only [Exit.noGoto, Exit.inBlock, Exit.then]
      go_ret
      exact ⟨rfl, ((Below.refl _ wr).drew.drew).trans hb⟩
  · clear hl
    go_enter Tryz.func112, Tryz.ntmps112
    go_wp2_with (first
      | (go_at_call 138; with_reducible refine cV.mono ?_; rintro e w1 ⟨rfl, hw⟩; rw [hw]; clear hw))
    go_step3
    go_wp2_with fail
    go_loopg [9] 0 (fun g s9 wr => s9 = .int .i64 3 ∧ wr = w)
    case atStart => exact ⟨rfl, rfl⟩
    case round =>
      obtain ⟨rfl, rfl⟩ := hrel
      go_wp2_with fail
      simp only [Exit.noGoto, Exit.inBlock, Exit.then]
      go_ret
      exact ⟨rfl, Below.refl _ _⟩
theorem enc_high {r : Int} (h : 128 ≤ r) : ∀ x ∈ Lib.encodeRune r, 128 ≤ x.toNat := by
  have key : ∀ x : Int, 128 ≤ x → x < 256 → 128 ≤ (x.toNat.toUInt8).toNat := by
    intro x h1 h2
    have : (x.toNat.toUInt8).toNat = x.toNat % 256 := by simp
    omega
  unfold Lib.encodeRune
  intro x hx
  obtain ⟨z, hz, rfl⟩ := List.mem_map.1 hx
  have hb := Lib.encodeRuneZ_byte r z hz
  refine key z ?_ hb.2
  by_cases h2 : r ≤ 2047
  · rw [Lib.encodeRuneZ_two h h2] at hz
    simp at hz; omega
  · by_cases h3 : (2048 ≤ r ∧ r < 55296) ∨ (57343 < r ∧ r ≤ 65535)
    · rw [Lib.encodeRuneZ_three h3] at hz
      simp at hz; omega
    · by_cases h4 : 65536 ≤ r ∧ r ≤ 1114111
      · rw [Lib.encodeRuneZ_four h4.1 h4.2] at hz
        simp at hz; omega
      · rw [Lib.encodeRuneZ_bad (by omega)] at hz
        simp at hz; omega
/-- a step of a range over a text whose byte is no letter: all its bytes are such -/
theorem high_step (l : List UInt8) (b : UInt8) (hb : l[0]? = some b) (h : 128 ≤ b.toNat) : 128 ≤ (Lib.decodeL l).1 ∧ ∀ x ∈ l.take (Lib.decodeL l).2, 128 ≤ x.toNat := by
  have hne : l ≠ [] := by rintro rfl; simp at hb
  by_cases hv : (Lib.decodeL l).1 = 65533 ∧ (Lib.decodeL l).2 = 1
  · rw [hv.1, hv.2]
    refine ⟨by omega, ?_⟩
    cases l with
    | nil => exact absurd rfl hne
    | cons a t => simp at hb; subst hb; intro x hx; simp at hx; rw [hx]; exact h
  · have he := Lib.encode_decode l hne hv
    by_cases hr : 128 ≤ (Lib.decodeL l).1
    · refine ⟨hr, ?_⟩
      rw [← he]
      exact enc_high (by omega)
    · exfalso
      unfold Lib.encodeRune at he
      rw [Lib.encodeRuneZ_one (by omega) (by omega)] at he
      cases l with
      | nil => exact hne rfl
      | cons a t =>
        simp at hb; subst hb
        cases hk : (Lib.decodeL (a :: t)).2 with
        | zero => rw [hk] at he; simp at he
        | succ k =>
          rw [hk] at he
          simp at he
          have := congrArg UInt8.toNat he.1
          simp at this
          omega
theorem no_any_more {S cs : List UInt8} {pos K : Nat} (hno : Lib.NoAny S cs pos) (hcs : ∀ y ∈ cs, y.toNat < 128) (h : ∀ x ∈ (S.drop pos).take K, 128 ≤ x.toNat) : Lib.NoAny S cs (pos + K) := by
  intro j b hj hb
  by_cases h1 : j < pos
  · exact hno j b h1 hb
  · have hm : b ∈ (S.drop pos).take K := by
      refine List.mem_of_getElem? (i := j - pos) ?_
      rw [List.getElem?_take, if_pos (by omega), List.getElem?_drop, show pos + (j - pos) = j by omega, hb]
    have := h b hm
    cases hc : cs.contains b with
    | false => rfl
    | true =>
      have h2 := hcs b (by simpa using hc)
      omega
set_option maxRecDepth 1000000 in
set_option maxHeartbeats 2000000 in
theorem rune_err (s : ByteArray) (w : World) (hl : ∀ y ∈ s.data.toList, y.toNat < 128) :
    Calls Tryz.prog 112 #[.string s, .int .i32 65533] w fun e w' => e = .returned (.int .i64 (-1)) ∧ Below w.heap.size w w' := by
  have HL := Lib.hid hl
  clear hl
  go_enter Tryz.func112, Tryz.ntmps112
  go_wp2_with fail
  go_loopg [] s.size (fun g wr => ∃ i : Nat, i + g = s.size ∧ wr = w.iter s i)
  case atStart => exact ⟨0, by omega, rfl⟩
  case round =>
    obtain ⟨i, hig, rfl⟩ := hrel
    by_cases hi : i < s.size
    · obtain ⟨g, rfl⟩ : ∃ g, gk = g + 1 := ⟨gk - 1, by omega⟩
      have hb := HL.out _ (List.mem_of_getElem? (Lib.data_getElem? s i hi))
      have hnx := fun ty => run_next_ascii (P := Tryz.prog) w s i ty hi hb
      obtain ⟨C, hC⟩ : ∃ C : Int, ((s[i]'hi).toNat : Int) = C := ⟨_, rfl⟩
      have hC2 : (C == 65533) = false := by rw [beq_eq_false_iff_ne]; omega
      rw [hC] at hnx
      clear hb hC
      go_wp2_with fail
      go_roundg g
      case measure => omega
      case rel => exact ⟨i + 1, by omega, rfl⟩
    · have hnx := run_next_end (P := Tryz.prog) w s i
      go_wp2_with fail
      go_ret
      exact ⟨rfl, (Below.refl _ _).alloc (Nat.le_refl _) _⟩
set_option maxRecDepth 1000000 in
set_option maxHeartbeats 2000000 in
theorem rune_none (s : ByteArray) (r : Int) (w : World) (h1 : 128 ≤ r) (h3 : r ≤ 1114111) (hs : s.size ≤ 1000000) (hl : ∀ y ∈ s.data.toList, y.toNat < 128) :
    Calls Tryz.prog 112 #[.string s, .int .i32 r] w fun e w' => e = .returned (.int .i64 (-1)) ∧ Below w.heap.size w w' := by
  by_cases he : r = 65533
  · subst he; exact rune_err s w hl
  · cases hv : Lib.validRune r with
    | true =>
      rcases enc_cases h1 with ⟨a, x, hE, hx⟩ | ⟨a, b, x, hE, hx⟩ | ⟨a, b, c, x, hE, hx⟩
      · exact rune_high1 s r w h1 h3 he hv hs hl a x hE hx
      · exact rune_high2 s r w h1 h3 he hv hs hl a b x hE hx
      · exact rune_high3 s r w h1 h3 he hv hs hl a b c x hE hx
    | false =>
      have cV := Tryz.utf8_ValidRune r w
      rw [hv] at cV
      have hr5 : (r == 65533) = false := by simpa using he
      clear hv he hl
      go_enter Tryz.func112, Tryz.ntmps112
      go_wp2_with (first
        | (go_at_call 138; with_reducible refine cV.mono ?_; rintro e w1 ⟨rfl, hw⟩; rw [hw]; clear hw))
      go_ret
      exact ⟨rfl, Below.refl _ _⟩
set_option maxRecDepth 1000000 in
set_option maxHeartbeats 4000000 in
theorem indexAny_short (s chars : ByteArray) (w : World) (h2 : 2 ≤ chars.size) (hcs : chars.size ≤ 1000000) (h8 : s.size ≤ 8) (hl : ∀ y ∈ chars.data.toList, y.toNat < 128) :
    Calls Tryz.prog 92 #[.string s, .string chars] w fun e w' => e = .returned (.int .i64 (Lib.indexAny s.data.toList chars.data.toList)) ∧ Below w.heap.size w w' := by
  have hlen : s.data.toList.length = s.size := (Lib.size_eq s).symm
  have hemp : chars.toList.isEmpty = false := by
    rw [Lib.toList_data]
    cases h : chars.data.toList with
    | nil => have := Lib.size_eq chars; rw [h, List.length_nil] at this; omega
    | cons _ _ => rfl
  have hn1 : ((chars.size : Int) == 1) = false := beq_eq_false_iff_ne.2 (by omega)
  have h8z : decide ((8 : Int) < (s.size : Int)) = false := decide_eq_false (by omega)
  have cU := Tryz.strings_shouldUseASCIISet (s.size : Int) w
  rw [h8z] at cU
  have HL := Lib.hid hl
  clear hl h8z
  have cR1 := fun (c : UInt8) (h : c.toNat < 128) W => Tryz.strings_IndexRune_ascii chars (c.toNat : Int) W (by omega) (by omega)
  have cR2 := fun (Z : Int) (h : 128 ≤ Z) (h' : Z ≤ 1114111) W => rune_none chars Z W h h' hcs HL.out
  obtain ⟨I, hI⟩ : ∃ I, I = Lib.indexAny s.data.toList chars.data.toList := ⟨_, rfl⟩
  rw [← hI]
  have HI := Lib.hid hI
  clear hI
  go_enter Tryz.func92, Tryz.ntmps92
  go_wp2_with (go_at_call 113; with_reducible refine cU.mono ?_; rintro e w1 ⟨rfl, hw⟩; rw [hw]; clear hw)
  go_loopg [] s.size (fun g wr => ∃ (pos : Nat), wr.heap[w.heap.size]? = some (.stringIter s pos) ∧ Below w.heap.size w wr ∧ s.size ≤ pos + g ∧ Hid (Lib.NoAny s.data.toList chars.data.toList pos))
  case atStart =>
    refine ⟨0, ?_, (Below.refl _ _).alloc (Nat.le_refl _) _, by omega, Lib.NoAny.zero _ _⟩
    have := World.iter_heap w s 0
    simpa using this
  case round =>
    obtain ⟨pos, hit, hbw, hfu, Hf⟩ := hrel
    have hsz : w.heap.size < wr.heap.size := (Array.getElem?_eq_some_iff.1 hit).1
    by_cases hp : pos < s.size
    · obtain ⟨g', rfl⟩ : ∃ g', gk = g' + 1 := ⟨gk - 1, by omega⟩
      obtain ⟨c, hc⟩ : ∃ c, s[pos]'hp = c := ⟨_, rfl⟩
      have hcl : s.data.toList[pos]? = some c := by rw [← hc]; exact Lib.data_getElem? s pos hp
      by_cases h128 : c.toNat < 128
      · have hnx : ∀ ty, (Instr.next (.pointer (some ⟨w.heap.size, 0, none⟩)) true ty).run Tryz.prog wr = _ := fun ty => Lib.run_next_ascii_at wr (w.heap.size) s pos ty hit hp (by rw [hc]; exact h128)
        rw [hc] at hnx
        have hit2 := Lib.iterAt_heap wr (w.heap.size) s pos (pos + 1) hit
        have hbw2 := Lib.below_iterAt hbw (k := w.heap.size) (by omega) s (pos + 1)
        have c1 := fun W => cR1 c h128 W
        have hback : ((c.toNat : Int)).toNat.toUInt8 = c := by simp
        rw [hback] at c1
        have hcon := Lib.contains_iff_indexByte chars.data.toList c
        obtain ⟨X, hX⟩ : ∃ X, wr.iterAt (w.heap.size) s (pos + 1) = X := ⟨_, rfl⟩
        rw [hX] at hnx hit2 hbw2
        obtain ⟨C, hC⟩ : ∃ C : Int, (c.toNat : Int) = C := ⟨_, rfl⟩
        rw [hC] at hnx c1
        have HCL := Lib.hid hcl
        generalize hJ : Lib.indexByte chars.data.toList c = J at c1 hcon
        clear hX hit hbw hback hJ hC hcl hc h128
        cases hin : chars.data.toList.contains c
        · rw [hin] at hcon
          have hlt : ¬ ((0 : Int) ≤ J) := of_decide_eq_false hcon.symm
          have HH := Lib.hid hin
          clear hcon hin
          go_wp2_with (go_at_call 112; with_reducible refine (c1 _).mono ?_; rintro e w1 ⟨rfl, hw⟩; rw [hw]; clear hw)
          go_roundg g'
          case measure => omega
          case rel => exact ⟨pos + 1, hit2, hbw2, by omega, Hf.out.succ HCL.out HH.out⟩
        · rw [hin] at hcon
          have hge : (0 : Int) ≤ J := of_decide_eq_true hcon.symm
          have HH := Lib.hid hin
          clear hcon hin
          go_wp2_with (go_at_call 112; with_reducible refine (c1 _).mono ?_; rintro e w1 ⟨rfl, hw⟩; rw [hw]; clear hw)
          go_ret
          exact ⟨by rw [HI.out, Lib.indexAny_hit Hf.out HCL.out HH.out]; rfl, hbw2⟩
      · have hnx : ∀ ty, (Instr.next (.pointer (some ⟨w.heap.size, 0, none⟩)) true ty).run Tryz.prog wr = _ := fun ty => Lib.run_next_any_at wr (w.heap.size) s pos ty hit hp
        have hst := high_step (s.data.toList.drop pos) c (by rw [List.getElem?_drop, Nat.add_zero]; exact hcl) (by omega)
        rw [Lib.decodeL_drop] at hst
        have hwd := Lib.width_pos s pos
        have hRl := Lib.rune_le s pos
        obtain ⟨R, hR⟩ : ∃ R, (Utf8.decode s pos).1 = R := ⟨_, rfl⟩
        obtain ⟨K, hK⟩ : ∃ K, (Utf8.decode s pos).2 = K := ⟨_, rfl⟩
        rw [hR, hK] at hnx hst
        rw [hK] at hwd
        rw [hR] at hRl
        have HNN := Lib.hid (no_any_more Hf.out HL.out hst.2)
        obtain ⟨Z, hZ⟩ : ∃ Z : Int, (R : Int) = Z := ⟨_, rfl⟩
        have hZ0 : 128 ≤ Z := by omega
        have hZ1 : Z ≤ 1114111 := by omega
        have c1 := fun W => cR2 Z hZ0 hZ1 W
        rw [hZ] at hnx
        have hit2 := Lib.iterAt_heap wr (w.heap.size) s pos (pos + K) hit
        have hbw2 := Lib.below_iterAt hbw (k := w.heap.size) (by omega) s (pos + K)
        have hsz2 : (wr.iterAt (w.heap.size) s (pos + K)).heap.size = wr.heap.size := by simp [World.iterAt]
        obtain ⟨X, hX⟩ : ∃ X, wr.iterAt (w.heap.size) s (pos + K) = X := ⟨_, rfl⟩
        rw [hX] at hnx hit2 hbw2 hsz2
        clear hX hit hbw hst hR hK hRl hZ hcl hc h128
        go_wp2_with (go_at_call 112; with_reducible refine (c1 _).mono ?_; rintro e w1 ⟨rfl, hb1⟩; have hit3 := below_same hb1 hit2; have hbw3 := hbw2.trans (hb1.mono hbw2.size))
        go_roundg g'
        case measure => omega
        case rel => exact ⟨pos + K, hit3, hbw3, by omega, HNN.out⟩
    · have hnx : ∀ ty, (Instr.next (.pointer (some ⟨w.heap.size, 0, none⟩)) true ty).run Tryz.prog wr = _ := fun ty => Lib.run_next_end_at wr (w.heap.size) s pos ty hit hp
      have hall : Lib.NoAny s.data.toList chars.data.toList s.data.toList.length := fun j b hj hb => Hf.out j b (by omega) hb
      have HH := Lib.hid hall
      clear hall
      go_wp2_with fail
      go_ret
      exact ⟨by rw [HI.out, Lib.indexAny_none HH.out]; rfl, hbw⟩
set_option maxRecDepth 1000000 in
theorem zero92 : (Tryz.prog.info? 140).map (fun i => (i.zero, i.size)) = some (some (.agg (Array.replicate 256 (.bool false))), 256) := by kernel_rfl
set_option maxHeartbeats 1000000 in
/-- strings.ContainsAny at whatever bytes, of letters below 128 -/
theorem containsAny_any (s chars : ByteArray) (w : World) (h2 : 2 ≤ chars.size) (hcs : chars.size ≤ 1000000) (hs : s.size < 4294967281) (hl : ∀ y ∈ chars.data.toList, y.toNat < 128) :
    Calls Tryz.prog 51 #[.string s, .string chars] w fun e w' => e = .returned (.bool (Lib.containsAny s.data.toList chars.data.toList)) ∧ Below w.heap.size w w' := by
  have c : Calls Tryz.prog 92 #[.string s, .string chars] w fun e w' => e = .returned (.int .i64 (Lib.indexAny s.data.toList chars.data.toList)) ∧ Below w.heap.size w w' := by
    by_cases h8 : s.size ≤ 8
    · exact indexAny_short s chars w h2 hcs h8 hl
    · refine (Tryz.strings_IndexAny_long (zero_of_info zero92).1 s chars w h2 (by omega) hs (by omega) (fun j b hb => hl b (List.mem_of_getElem? hb))).mono fun e w' ⟨h1, h2⟩ => ⟨h1, ?_⟩
      rw [h2]
      exact ((Below.refl _ _).alloc (Nat.le_refl _) _).alloc (by simp) _
  go_enter Tryz.func51, Tryz.ntmps51
  go_wp2_with (go_at_call 92; with_reducible refine c.mono ?_; rintro e w' ⟨rfl, hw⟩)
  go_ret
  exact ⟨rfl, hw⟩
end Go.Proofs.YtcahhnjponeeeaaGreatDoor
