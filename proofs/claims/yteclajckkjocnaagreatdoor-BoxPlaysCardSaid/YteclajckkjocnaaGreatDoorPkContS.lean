/- The walks over flags.small, Name and what it calls: each returns what its plain function says. Conditions: flags.system lies as the program's text lays it. Rows of texts: a slice whose cells hold texts (SRow), in a block of texts (TRow). No condition beyond those each names. The walks over flags.Name, rank, order: each returns what its plain function says. Conditions: flags.system lies as the program's text lays it. The walks over flags.rank, order: each returns what its plain function says. Conditions: flags.system lies as the program's text lays it. The walk over flags.Set: it returns what its plain function says. Conditions: flags.system lies as the program's text lays it. slices.Contains at a row of texts. No condition beyond those each names. -/
import Derived.Test.YteclajckkjocnaaGreatDoorRows
import Derived.Shelf.Strings.SlTrimAscii
import Derived.Deep.RegionHeld3
import Derived.OwnWalk
import Derived.Sort.OwnSorted
import Derived.Deep.AppendLies
import Derived.Lib.RowBridge
import Derived.Laws.AppendOwnNone
import Derived.IntWalk
import Derived.Test.YteclajckkjocnaaGreatDoorPkBytes
import Derived.Test.YteclajckkjocnaaGreatDoorPkPFlags
import Derived.Test.YteclajckkjocnaaGreatDoorPkShelf
namespace Go.Proofs.YteclajckkjocnaaGreatDoor
open Go.RowKit Go.Shelf
set_option linter.unusedSimpArgs false
set_option maxRecDepth 100000 in
set_option maxHeartbeats 1000000 in
theorem fsmall_any (s : ByteArray) (w : World) (hs : s.size ≤ 1000000000) :
    Calls Tryz.prog 65 #[.string s] w fun e w' => e = .returned (.string ⟨(smallL s.data.toList).toArray⟩) ∧ Below w.heap.size w w' := by
  have hlen : s.data.toList.length = s.size := (Lib.size_eq s).symm
  have he := Lib.run_convert_string_bytes w 9 94 5 s Tryz.underlying9 Tryz.underlying94 Tryz.underlying5
  have hB := bytesAt_new w s
  have hb := bytesWorld_below w s
  have hsz : w.heap.size < (Lib.bytesWorld w 5 s).heap.size := by rw [Lib.bytesWorld_size]; omega
  generalize Lib.bytesWorld w 5 s = w1 at he hB hb hsz
  generalize grownCap w s.size 0 5 = cap at he
  go_enter Tryz.func65, Tryz.ntmps65
  go_wp2_with fail
  go_loopg [10] s.size (fun g s10 wr => ∃ (k : Nat), k + g = s.size ∧ s10 = .int .i64 k ∧ w.heap.size < wr.heap.size ∧ BytesAt wr w.heap.size ((s.data.toList.take k).map smallC ++ s.data.toList.drop k) ∧ Below w.heap.size w wr)
  case atStart => exact ⟨0, by omega, rfl, hsz, by simpa using hB, hb⟩
  case round =>
    obtain ⟨k, hk, rfl, hszr, hBr, hbr⟩ := hrel
    by_cases hlt : k < s.size
    · obtain ⟨g', rfl⟩ : ∃ g', gk = g' + 1 := ⟨gk - 1, by omega⟩
      obtain ⟨c, hc⟩ : ∃ c, s.data.toList[k]? = some c := ⟨s.data.toList[k], List.getElem?_eq_getElem (by omega)⟩
      have hcell := hBr.cell (map_cell (f := smallC) hc)
      have hfr := hBr.free (j := k) (by simp; omega)
      have hcl := c.toNat_lt
      by_cases hA : 65 ≤ c.toNat ∧ c.toNat ≤ 90
      · have hf : smallC c = c + 32 := by unfold smallC; rw [if_pos hA]
        have hfn : (smallC c).toNat = c.toNat + 32 := by rw [hf, UInt8.toNat_add]; show (c.toNat + 32) % 256 = _; omega
        have hput := hBr.put k (smallC c)
        rw [← map_step hc, hfn] at hput
        have hbp := hbr.setCell (p := ⟨w.heap.size, k, none⟩) (Nat.le_refl _) (.int .u8 ((c.toNat + 32 : Nat) : Int))
        have hszp : w.heap.size < (wr.setCell ⟨w.heap.size, k, none⟩ (.int .u8 ((c.toNat + 32 : Nat) : Int))).heap.size := by simpa using hszr
        obtain ⟨C, hC⟩ : ∃ C : Int, (c.toNat : Int) = C := ⟨_, rfl⟩
        have hC2 : ((c.toNat + 32 : Nat) : Int) = C + 97 - 65 := by omega
        rw [hC] at hcell
        rw [hC2] at hput hbp hszp
        have h1 : 65 ≤ C := by omega
        have h2 : C ≤ 90 := by omega
        clear hc hfn hf hA hC hC2 hcl hBr
        go_wp2_with fail
        go_roundg g'
        case measure => omega
        case rel => exact ⟨k + 1, by omega, by go_num, hszp, hput, hbp⟩
      · have hf : smallC c = c := by unfold smallC; rw [if_neg hA]
        rw [← map_same hc hf] at hBr
        obtain ⟨C, hC⟩ : ∃ C : Int, (c.toNat : Int) = C := ⟨_, rfl⟩
        rw [hC] at hcell
        have h12 : C < 65 ∨ 90 < C := by omega
        clear hc hf hA hC hcl
        rcases h12 with h12 | h12
        · go_wp2_with fail
          go_roundg g'
          case measure => omega
          case rel => exact ⟨k + 1, by omega, by go_num, hszr, hBr, hbr⟩
        · have h65 : 65 ≤ C := by omega
          go_wp2_with fail
          go_roundg g'
          case measure => omega
          case rel => exact ⟨k + 1, by omega, by go_num, hszr, hBr, hbr⟩
    · have hk2 : k = s.size := by omega
      have hE : (s.data.toList.take k).map smallC ++ s.data.toList.drop k = smallL s.data.toList := by
        rw [List.take_of_length_le (by omega), List.drop_eq_nil_of_le (by omega), List.append_nil]; rfl
      rw [hE] at hBr
      have hrow := hBr.row hszr s.size cap (by simp [smallL, hlen])
      have hcv := run_bytes_text (P := Tryz.prog) hrow 94 9 5 Tryz.underlying94 Tryz.underlying5 Tryz.underlying9
      clear hE hBr hrow hk2 hk
      go_wp2_with fail
      go_ret
      exact ⟨rfl, hbr⟩
/-- the system's flags lie as the program's text lays them -/
def FlagG (w : World) : Prop := ∃ T, w.heap[0]? = some (.cells ((sysL.map fun t => Value.string ⟨t.toArray⟩).toArray) T (0, 0))
theorem FlagG.below {w w' : World} (h : FlagG w) (hb : Below w.heap.size w w') : FlagG w' := h.elim fun T h => ⟨T, below_same hb h⟩
theorem FlagG.cell {w : World} (h : FlagG w) {j : Nat} {t : List UInt8} (hj : sysL[j]? = some t) : w.cell? ⟨0, j, none⟩ = some (.string ⟨t.toArray⟩) := by
  obtain ⟨T, h⟩ := h
  rw [Lib.cell_of_heap h]
  simp [hj]
theorem sys_len {t : List UInt8} (h : t ∈ sysL) : t.length ≤ 9 := by
  have : sysL.all (fun t => decide (t.length ≤ 9)) = true := by decide
  simpa using List.all_eq_true.1 this t h
set_option maxRecDepth 100000 in
set_option maxHeartbeats 2000000 in
theorem fname1_any (t s : List UInt8) (B : Nat) (w : World) (ht : t.length ≤ 2000000) (hs : s.length ≤ 2000000) (hc : w.cell? ⟨B, 0, none⟩ = some (.string ⟨s.toArray⟩)) (hB : B < w.heap.size) :
    Calls Tryz.prog 64 #[.string ⟨t.toArray⟩, .pointer (some ⟨B, 0, none⟩)] w fun e w' => e = .returned (.bool (smallL t == smallL s)) ∧ Below w.heap.size w w' := by
  have cT := fun W => fsmall_any ⟨t.toArray⟩ W (by rw [text_size]; omega)
  have cS := fun W => fsmall_any ⟨s.toArray⟩ W (by rw [text_size]; omega)
  simp only [List.toList_toArray] at cT cS
  have y : Below w.heap.size w w.drew := (Below.refl _ _).drew
  have c : w.drew.cell? ⟨B, 0, none⟩ = some (.string ⟨s.toArray⟩) := hc
  go_enter Tryz.func64, Tryz.ntmps64
  go_wp2_with fail
  go_region_held3 (fun W => W.cell? ⟨B, 0, none⟩ = some (.string ⟨s.toArray⟩) ∧ Below w.heap.size w W)
    (first | exact ⟨c, y⟩)
    (first
      | (go_at_call 65; with_reducible refine (cT _).mono ?_; rintro e w1 ⟨rfl, h⟩; have c := (h.cell (p := ⟨B, 0, none⟩) (Nat.lt_of_lt_of_le hB y.size)).trans c; have y := y.trans (h.mono y.size))
      | (go_at_call 65; with_reducible refine (cS _).mono ?_; rintro e w1 ⟨rfl, h⟩; have c := (h.cell (p := ⟨B, 0, none⟩) (Nat.lt_of_lt_of_le hB y.size)).trans c; have y := y.trans (h.mono y.size)))
  go_wp2_with fail
  go_ret
  exact ⟨rfl, y⟩
/-- which of the system's flags is meant -/
def hitF (s t : List UInt8) : Bool := smallL t == smallL s
def IdxIs (s : List UInt8) (r : Int) : Prop := (r = -1 ∧ sysL.find? (hitF s) = none) ∨ ∃ (k : Nat) (t : List UInt8), r = (k : Int) ∧ k < 5 ∧ sysL[k]? = some t ∧ sysL.find? (hitF s) = some t
set_option maxRecDepth 100000 in
set_option maxHeartbeats 4000000 in
theorem fidx_any (s : List UInt8) (B : Nat) (w : World) (hs : s.length ≤ 2000000) (hc : w.cell? ⟨B, 0, none⟩ = some (.string ⟨s.toArray⟩)) (hB : B < w.heap.size) (hG : FlagG w) :
    Calls Tryz.prog 63 #[.slice (some ⟨0, 0, none⟩) 5 5, .func (.func 64) #[] #[.pointer (some ⟨B, 0, none⟩)]] w fun e w' => ∃ r : Int, e = .returned (.int .i64 r) ∧ IdxIs s r ∧ Below w.heap.size w w' := by
  go_enter Tryz.func63, Tryz.ntmps63
  go_wp2_with fail
  go_loopg [8] 5 (fun g8 s8 wr => ∃ (k : Nat), k + g8 = 5 ∧ s8 = .int .i64 (k : Int) ∧ Below w.heap.size w wr ∧ Hid (sysL.find? (hitF s) = (sysL.drop k).find? (hitF s)))
  case atStart => exact ⟨0, by omega, rfl, Below.refl _ _, rfl⟩
  case round =>
    obtain ⟨k, hk, rfl, hbr, HF⟩ := hrel
    by_cases hlt : k < 5
    · obtain ⟨g', rfl⟩ : ∃ g', gk = g' + 1 := ⟨gk - 1, by omega⟩
      obtain ⟨t, ht⟩ : ∃ t, sysL[k]? = some t := ⟨sysL[k]'hlt, List.getElem?_eq_getElem hlt⟩
      have hd := (hG.below hbr).cell ht
      have hdr : sysL.drop k = t :: sysL.drop (k + 1) := by
        rw [List.drop_eq_getElem_cons hlt]
        rw [List.getElem?_eq_getElem hlt] at ht
        rw [Option.some.inj ht]
      have hF := HF.out
      rw [hdr, List.find?_cons] at hF
      have htl := sys_len (List.mem_of_getElem? ht)
      have cN := fname1_any t s B wr (by omega) hs ((hbr.cell (p := ⟨B, 0, none⟩) hB).trans hc) (Nat.lt_of_lt_of_le hB hbr.size)
      have HT := Lib.hid ht
      cases hh : hitF s t with
      | true =>
        rw [hh] at hF
        have HF2 : Hid (sysL.find? (hitF s) = some t) := hF
        have hh2 : (smallL t == smallL s) = true := hh
        rw [hh2] at cN
        clear hF hdr ht hh hh2 HF
        go_wp2_with (go_at_call 64; with_reducible refine cN.mono ?_; rintro e w1 ⟨rfl, h⟩; have y := hbr.trans (h.mono hbr.size))
        go_ret
        exact ⟨(k : Int), rfl, Or.inr ⟨k, t, rfl, hlt, HT.out, HF2.out⟩, y⟩
      | false =>
        rw [hh] at hF
        have HF2 : Hid (sysL.find? (hitF s) = (sysL.drop (k + 1)).find? (hitF s)) := hF
        have hh2 : (smallL t == smallL s) = false := hh
        rw [hh2] at cN
        clear hF hdr ht hh hh2 HF
        go_wp2_with (go_at_call 64; with_reducible refine cN.mono ?_; rintro e w1 ⟨rfl, h⟩; have y := hbr.trans (h.mono hbr.size))
        go_roundg g'
        case measure => omega
        case rel => exact ⟨k + 1, by omega, by go_num, y, HF2.out⟩
    · have hF := HF.out
      obtain rfl : k = 5 := by omega
      have HF2 : Hid (sysL.find? (hitF s) = none) := hF
      clear hF HF
      go_wp2_with fail
      go_ret
      exact ⟨-1, rfl, Or.inl ⟨rfl, HF2.out⟩, hbr⟩
end Go.Proofs.YteclajckkjocnaaGreatDoor
namespace Go.Proofs.YteclajckkjocnaaGreatDoor
open Go.RowKit Go.Shelf Go.Sort
set_option linter.unusedSimpArgs false
/-- a slice of texts -/
def SRow (w : World) (v : Value) (l : List (List UInt8)) : Prop := ∃ ao cap, v = .slice ao l.length cap ∧ l.length ≤ cap ∧ (cap ≤ 9223372036854775807 ∧ (ao = none → cap = 0)) ∧ ∀ (j : Nat) (t : List UInt8), l[j]? = some t → ∃ b off, ao = some ⟨b, off, none⟩ ∧ b < w.heap.size ∧ w.cell? ⟨b, off + j, none⟩ = some (.string ⟨t.toArray⟩)
theorem SRow.below {w w' : World} {v : Value} {l : List (List UInt8)} (h : SRow w v l) (hb : Below w.heap.size w w') : SRow w' v l := by
  obtain ⟨ao, cap, h1, h2, h3, h4⟩ := h
  refine ⟨ao, cap, h1, h2, h3, fun j t hj => ?_⟩
  obtain ⟨b, off, e1, e2, e3⟩ := h4 j t hj
  exact ⟨b, off, e1, Nat.lt_of_lt_of_le e2 hb.size, (hb.cell (p := ⟨b, off + j, none⟩) e2).trans e3⟩
theorem SRow.nil (w : World) : SRow w (.slice none 0 0) [] := ⟨none, 0, rfl, Nat.le_refl _, ⟨by decide, fun _ => rfl⟩, fun j t h => by simp at h⟩
/-- the row's block holds strings, as its kind says -/
def STag (w : World) (v : Value) : Prop := ∀ a n c, v = .slice (some a) n c → ∃ cur fz, w.heap[a.block]? = some (.cells cur 9 fz)
theorem STag.below {w w' : World} {v : Value} (h : STag w v) (hb : Below w.heap.size w w') : STag w' v := fun a n c e => by
  obtain ⟨cur, fz, hh⟩ := h a n c e
  exact ⟨cur, fz, (hb.block _ (Array.getElem?_eq_some_iff.1 hh).1).trans hh⟩
theorem stag_owns {w : World} {B n : Nat} {v : Value} {xs : List Value} (h : w.ownsRow B 9 1 v n xs) : STag w v := fun a n' c e => by
  rcases h.2 with ⟨rfl, _⟩ | ⟨g, cap, cur, rfl, _, hh, _⟩
  · cases e
  · cases e; exact ⟨cur, _, hh⟩
theorem stag_cut {w : World} {a : Option Addr} {n c n' c' : Nat} (h : STag w (.slice a n c)) : STag w (.slice a n' c') := fun a' _ _ e => by
  cases e
  exact h a' _ _ rfl
/-- a slice of texts in a block of texts -/
def TRow (w : World) (v : Value) (l : List (List UInt8)) : Prop := SRow w v l ∧ STag w v
theorem TRow.below {w w' : World} {v : Value} {l : List (List UInt8)} (h : TRow w v l) (hb : Below w.heap.size w w') : TRow w' v l := ⟨h.1.below hb, h.2.below hb⟩
theorem TRow.row {w : World} {v : Value} {l : List (List UInt8)} (h : TRow w v l) : SRow w v l := h.1
theorem TRow.nil (w : World) : TRow w (.slice none 0 0) [] := ⟨SRow.nil w, fun _ _ _ e => by cases e⟩
theorem str_info : (Tryz.prog.info? 9).map (fun i => (i.zero, i.size, i.bytes)) = some (some (.string ByteArray.empty), 1, 16) := by kernel_rfl
theorem srow_owns {W : World} {B : Nat} {v : Value} {l : List (List UInt8)} (h : W.ownsRow B 9 1 v l.length (l.map encStr)) : SRow W v l := by
  rcases h.2 with ⟨rfl, h0⟩ | ⟨g, cap, cur, rfl, hbase, hb, h1, h2, _⟩
  · obtain rfl : l = [] := List.eq_nil_of_length_eq_zero h0
    exact SRow.nil W
  · refine ⟨_, _, rfl, h1, ⟨by unfold maxLen at h2; omega, fun e => by cases e⟩, fun j t hj => ⟨g, 0, rfl, (Array.getElem?_eq_some_iff.1 hb).1, ?_⟩⟩
    rw [Nat.zero_add]
    exact owns_cell h (by rw [List.getElem?_map, hj]; rfl)
end Go.Proofs.YteclajckkjocnaaGreatDoor
namespace Go.Proofs.YteclajckkjocnaaGreatDoor
open Go.RowKit Go.Shelf
set_option linter.unusedSimpArgs false
set_option maxRecDepth 1000000 in
theorem fzero92 : (Tryz.prog.info? 127).map (fun i => (i.zero, i.size)) = some (some (.agg (Array.replicate 256 (.bool false))), 256) := by kernel_rfl
/-- the letters of flags, as the program writes them -/
def lettersL : List UInt8 := [97, 98, 99, 100, 101, 102, 103, 104, 105, 106, 107, 108, 109, 110, 111, 112, 113, 114, 115, 116, 117, 118, 119, 120, 121, 122, 65, 66, 67, 68, 69, 70, 71, 72, 73, 74, 75, 76, 77, 78, 79, 80, 81, 82, 83, 84, 85, 86, 87, 88, 89, 90, 48, 49, 50, 51, 52, 53, 54, 55, 56, 57, 95, 36]
theorem letters_has (c : UInt8) : lettersL.contains c = letterC c := u8_all (p := fun c => lettersL.contains c = letterC c) (by decide +kernel) c
theorem dropWhile_nil {α : Type} (p : α → Bool) : ∀ l : List α, l.dropWhile p = [] ↔ l.all p = true
  | [] => by simp
  | x :: l => by
    rw [List.dropWhile_cons, List.all_cons]
    cases h : p x
    · simp
    · simp [dropWhile_nil p l]
theorem all_rev {α : Type} (p : α → Bool) (l : List α) : l.reverse.all p = l.all p := by simp
theorem trim_nil (s : List UInt8) : Lib.trimS s lettersL = [] ↔ s.all letterC = true := by
  have e : (fun c => lettersL.contains c) = letterC := funext letters_has
  unfold Lib.trimS Lib.trimRightS Lib.trimLeftS
  rw [e]
  rw [dropWhile_nil, all_rev]
  constructor
  · intro h
    have h2 := List.takeWhile_append_dropWhile (p := letterC) (l := s.reverse)
    rw [← all_rev, ← h2, List.all_append, h, Bool.and_true]
    exact List.all_takeWhile
  · intro h
    rw [(dropWhile_nil letterC s.reverse).2 (by rw [all_rev]; exact h)]
    rfl
theorem trim_let (l : List UInt8) (W : World) (hs : l.length ≤ 2000000) :
    Calls Tryz.prog 66 #[.string ⟨l.toArray⟩, .string ⟨#[97, 98, 99, 100, 101, 102, 103, 104, 105, 106, 107, 108, 109, 110, 111, 112, 113, 114, 115, 116, 117, 118, 119, 120, 121, 122, 65, 66, 67, 68, 69, 70, 71, 72, 73, 74, 75, 76, 77, 78, 79, 80, 81, 82, 83, 84, 85, 86, 87, 88, 89, 90, 48, 49, 50, 51, 52, 53, 54, 55, 56, 57, 95, 36]⟩] W fun e w' => e = .returned (.string ⟨(Lib.trimS l lettersL).toArray⟩) ∧ Below W.heap.size W w' :=
  Any.strings_Trim_laid Tryz.lays160 fzero92 ⟨l.toArray⟩ ⟨lettersL.toArray⟩ W (by rw [text_size]; omega) (by decide) (ascii_of_all (by decide))
/-- what Name returns -/
def nameV : Nat ⊕ List UInt8 → Value
  | .inl n => .tuple #[.string ⟨#[]⟩, .iface 59 (.int .i64 (n : Int))]
  | .inr t => .tuple #[.string ⟨t.toArray⟩, .nilIface]
theorem pre_head (s : List UInt8) : Lib.hasPrefix s [92] = decide (s.head? = some 92) := by
  cases s with
  | nil => rfl
  | cons c r =>
    show (92 == c && List.isPrefixOf [] r) = _
    by_cases h : c = 92
    · subst h; rfl
    · have h2 : ¬ (92 : UInt8) = c := fun e => h e.symm
      simp [h, h2]
set_option maxRecDepth 100000 in
set_option maxHeartbeats 4000000 in
theorem fname_any (s : List UInt8) (w : World) (hs : s.length ≤ 2000000) (hG : FlagG w) :
    Calls Tryz.prog 41 #[.string ⟨s.toArray⟩] w fun e w' => e = .returned (nameV (nameF s)) ∧ Below w.heap.size w w' := by
  have hts := text_size s
  have cH := fun W => Tryz.strings_HasPrefix ⟨s.toArray⟩ ⟨#[92]⟩ W
  have e92 : (⟨#[92]⟩ : ByteArray).data.toList = [92] := rfl
  have y0 := (Below.refl w.heap.size w).alloc (Nat.le_refl _) (.cells #[.string ⟨s.toArray⟩] 9)
  have x0 := World.heap_alloc_new w (.cells #[.string ⟨s.toArray⟩] 9)
  have c0 : (w.alloc (.cells #[.string ⟨s.toArray⟩] 9)).cell? ⟨w.heap.size, 0, none⟩ = some (.string ⟨s.toArray⟩) := by rw [Lib.cell_of_heap x0]; rfl
  simp only [List.toList_toArray] at cH
  rw [pre_head] at cH
  obtain ⟨R, hR⟩ : ∃ R, nameF s = R := ⟨_, rfl⟩
  rw [hR]
  unfold nameF at hR
  by_cases h92 : s.head? = some 92
  · rw [decide_eq_true h92] at cH
    rw [if_pos h92] at hR
    have cI := fidx_any s w.heap.size _ hs c0 (by rw [alloc_size]; omega) (hG.below y0)
    have HR : Hid ((match sysL.find? (hitF s) with | some t => (.inr t : Nat ⊕ List UInt8) | none => .inl 3) = R) := hR
    clear hR h92 x0
    cases hf : sysL.find? (hitF s) with
    | none =>
      have cI2 := cI.mono (R' := fun e w' => e = .returned (.int .i64 (-1)) ∧ Below (w.alloc (.cells #[.string ⟨s.toArray⟩] 9)).heap.size (w.alloc (.cells #[.string ⟨s.toArray⟩] 9)) w') (by
        rintro e w' ⟨r, rfl, hi, hb⟩
        rcases hi with ⟨rfl, _⟩ | ⟨k, t, rfl, _, _, h2⟩
        · exact ⟨rfl, hb⟩
        · rw [hf] at h2; cases h2)
      have hR2 := HR.out
      rw [hf] at hR2
      have HR2 := Lib.hid hR2
      clear cI hR2 HR hf
      go_enter Tryz.func41, Tryz.ntmps41
      go_wp2_with (first
        | (go_at_call 62; with_reducible refine (cH _).mono ?_; rintro e w1 ⟨rfl, hw⟩; rw [hw]; clear hw)
        | (go_at_call 63; go_loud (with_reducible refine cI2.mono ?_; rintro e w2 ⟨rfl, h⟩; have y := y0.trans (h.mono y0.size))))
      go_ret2
      exact ⟨by rw [← HR2.out]; rfl, y⟩
    | some t =>
      have cI2 := cI.mono (R' := fun e w' => ∃ k : Nat, e = .returned (.int .i64 (k : Int)) ∧ k < 5 ∧ Hid (sysL[k]? = some t) ∧ Below (w.alloc (.cells #[.string ⟨s.toArray⟩] 9)).heap.size (w.alloc (.cells #[.string ⟨s.toArray⟩] 9)) w') (by
        rintro e w' ⟨r, rfl, hi, hb⟩
        rcases hi with ⟨rfl, h2⟩ | ⟨k, t', rfl, hk, ht, h2⟩
        · rw [hf] at h2; cases h2
        · rw [hf] at h2; cases h2; exact ⟨k, rfl, hk, ht, hb⟩)
      have hR2 := HR.out
      rw [hf] at hR2
      have HR2 := Lib.hid hR2
      clear cI hR2 HR hf
      go_enter Tryz.func41, Tryz.ntmps41
      go_wp2_with (first
        | (go_at_call 62; with_reducible refine (cH _).mono ?_; rintro e w1 ⟨rfl, hw⟩; rw [hw]; clear hw)
        | (go_at_call 63; go_loud (with_reducible refine cI2.mono ?_; rintro e w2 ⟨k, rfl, hk, HT, h⟩; have y := y0.trans (h.mono y0.size); have d := (hG.below y).cell HT.out)))
      go_ret2
      exact ⟨by rw [← HR2.out]; rfl, y⟩
  · rw [decide_eq_false h92] at cH
    rw [if_neg h92] at hR
    by_cases hemp : s = []
    · subst hemp
      have HR : Hid ((.inl 3 : Nat ⊕ List UInt8) = R) := by
        rw [if_pos (Or.inl rfl)] at hR
        exact hR
      clear hR h92 x0
      go_enter Tryz.func41, Tryz.ntmps41
      go_wp2_with (first
        | (go_at_call 62; with_reducible refine (cH _).mono ?_; rintro e w1 ⟨rfl, hw⟩; rw [hw]; clear hw))
      go_ret2
      exact ⟨by rw [← HR.out]; rfl, y0⟩
    · have he1 : (⟨s.toArray⟩ : ByteArray).toList.isEmpty = false := by rw [w_empty]; simpa using hemp
      have he2 : s.isEmpty = false := by simpa using hemp
      have cT := fun W => trim_let s W hs
      have htn := trim_nil s
      have hTl : (Lib.trimS s lettersL).length ≤ s.length := by
        unfold Lib.trimS Lib.trimRightS Lib.trimLeftS
        have := (List.dropWhile_sublist (fun c => lettersL.contains c) (l := (List.dropWhile (fun c => lettersL.contains c) s.reverse).reverse)).length_le
        have := (List.dropWhile_sublist (fun c => lettersL.contains c) (l := s.reverse)).length_le
        simp only [List.length_reverse] at *
        omega
      generalize Lib.trimS s lettersL = T at cT htn hTl
      cases ha : s.all letterC with
      | false =>
        have hT : T ≠ [] := fun h => by rw [htn.1 h] at ha; cases ha
        have he3 : (⟨T.toArray⟩ : ByteArray).toList.isEmpty = false := by rw [w_empty]; simpa using hT
        have he4 : T.isEmpty = false := by simpa using hT
        have HR : Hid ((.inl 3 : Nat ⊕ List UInt8) = R) := by
          rw [if_pos (Or.inr ha)] at hR
          exact hR
        clear hR h92 x0 hemp hT htn ha
        go_enter Tryz.func41, Tryz.ntmps41
        go_wp2_with (first
          | (go_at_call 62; with_reducible refine (cH _).mono ?_; rintro e w1 ⟨rfl, hw⟩; rw [hw]; clear hw)
          | (go_at_call 66; go_loud (with_reducible refine (cT _).mono ?_; rintro e w2 ⟨rfl, h⟩; have y := y0.trans (h.mono y0.size))))
        go_ret2
        exact ⟨by rw [← HR.out]; rfl, y⟩
      | true =>
        have hT : T = [] := htn.2 ha
        subst hT
        rw [if_neg (by rintro (h | h); exact hemp h; rw [ha] at h; cases h)] at hR
        by_cases h20 : 20 < s.length
        · have HR : Hid ((.inl 4 : Nat ⊕ List UInt8) = R) := by
            rw [if_pos h20] at hR
            exact hR
          have h20z : (20 : Int) < (s.length : Int) := by omega
          clear hR h92 x0 hemp htn ha
          go_enter Tryz.func41, Tryz.ntmps41
          go_wp2_with (first
            | (go_at_call 62; with_reducible refine (cH _).mono ?_; rintro e w1 ⟨rfl, hw⟩; rw [hw]; clear hw)
            | (go_at_call 66; go_loud (with_reducible refine (cT _).mono ?_; rintro e w2 ⟨rfl, h⟩; have y := y0.trans (h.mono y0.size); have d := below_cell h c0)))
          go_ret2
          exact ⟨by rw [← HR.out]; rfl, y⟩
        · have HR : Hid ((.inr s : Nat ⊕ List UInt8) = R) := by
            rw [if_neg h20] at hR
            exact hR
          have h20z : ¬((20 : Int) < (s.length : Int)) := by omega
          clear hR h92 x0 hemp htn ha
          go_enter Tryz.func41, Tryz.ntmps41
          go_wp2_with (first
            | (go_at_call 62; with_reducible refine (cH _).mono ?_; rintro e w1 ⟨rfl, hw⟩; rw [hw]; clear hw)
            | (go_at_call 66; go_loud (with_reducible refine (cT _).mono ?_; rintro e w2 ⟨rfl, h⟩; have y := y0.trans (h.mono y0.size); have d := below_cell h c0)))
          go_ret2
          exact ⟨by rw [← HR.out]; rfl, y⟩
end Go.Proofs.YteclajckkjocnaaGreatDoor
namespace Go.Proofs.YteclajckkjocnaaGreatDoor
open Go.RowKit Go.Shelf
set_option linter.unusedSimpArgs false
def sysB : List ByteArray := sysL.map fun t => ⟨t.toArray⟩
theorem sysB_get {j : Nat} (hj : j < 5) : ∃ t, sysL[j]? = some t ∧ sysB.getD j ByteArray.empty = ⟨t.toArray⟩ := by
  obtain ⟨t, ht⟩ : ∃ t, sysL[j]? = some t := ⟨sysL[j]'hj, List.getElem?_eq_getElem hj⟩
  exact ⟨t, ht, by unfold sysB; rw [List.getD, List.getElem?_map, ht]; rfl⟩
theorem bytes_inj {a b : List UInt8} (h : (⟨a.toArray⟩ : ByteArray) = ⟨b.toArray⟩) : a = b := by
  have := congrArg (fun x => x.data.toList) h
  simpa using this
theorem idx_rank (s : List UInt8) : Lib.idxOfS (sysB.take 5) ⟨s.toArray⟩ = if rankF s < 5 then (rankF s : Int) else -1 := by
  by_cases h : rankF s < 5
  · rw [if_pos h]
    obtain ⟨t, ht, hb⟩ := sysB_get h
    have hs : sysL[rankF s]'h = s := List.getElem_idxOf h
    have hts : t = s := by
      rw [List.getElem?_eq_getElem h] at ht
      rw [← Option.some.inj ht]; exact hs
    refine Lib.idxOfS_hit sysB 5 (rankF s) ⟨s.toArray⟩ h (by decide) (by rw [hb, hts]) (fun j hj => ?_)
    obtain ⟨u, hu, hub⟩ := sysB_get (Nat.lt_trans hj h)
    rw [hub]
    intro e
    have e2 := bytes_inj e
    have hj5 : j < 5 := Nat.lt_trans hj h
    have hne := List.not_of_lt_findIdx (p := (· == s)) (xs := sysL) hj
    rw [List.getElem?_eq_getElem hj5] at hu
    have := Option.some.inj hu
    rw [e2] at this
    simp at hne
    exact hne this
  · rw [if_neg h]
    refine Lib.idxOfS_miss sysB 5 ⟨s.toArray⟩ (fun j hj => ?_)
    obtain ⟨u, hu, hub⟩ := sysB_get hj
    rw [hub]
    intro e
    have e2 := bytes_inj e
    have hm : s ∈ sysL := e2 ▸ List.mem_of_getElem? hu
    exact h (List.idxOf_lt_length_iff.2 hm)
set_option maxRecDepth 100000 in
set_option maxHeartbeats 1000000 in
theorem rank_any (s : List UInt8) (w : World) (hG : FlagG w) :
    Calls Tryz.prog 69 #[.string ⟨s.toArray⟩] w fun e w' => e = .returned (.int .i64 (rankF s : Int)) ∧ w = w' := by
  have cI := Tryz.slices_Index_string 0 0 5 5 sysB ⟨s.toArray⟩ w (by decide) (by decide) (fun j hj => by
    obtain ⟨t, ht, hb⟩ := sysB_get (show j < 5 from hj)
    rw [Nat.zero_add, hG.cell ht, hb])
  rw [idx_rank] at cI
  have hl := rank_le s
  by_cases h : rankF s < 5
  · rw [if_pos h] at cI
    go_enter Tryz.func69, Tryz.ntmps69
    go_wp2_with (go_at_call 77; go_loud (with_reducible refine cI.mono ?_; rintro e w1 ⟨rfl, hw⟩; rw [hw]; clear hw))
    go_ret
    exact ⟨rfl, rfl⟩
  · rw [if_neg h] at cI
    have h5 : rankF s = 5 := by omega
    rw [h5]
    clear h5 h hl
    go_enter Tryz.func69, Tryz.ntmps69
    go_wp2_with (go_at_call 77; go_loud (with_reducible refine cI.mono ?_; rintro e w1 ⟨rfl, hw⟩; rw [hw]; clear hw))
    go_ret
    exact ⟨rfl, rfl⟩
set_option maxRecDepth 100000 in
set_option maxHeartbeats 1000000 in
theorem order_any (a b : List UInt8) (w : World) (hG : FlagG w) :
    Calls Tryz.prog 43 #[.string ⟨a.toArray⟩, .string ⟨b.toArray⟩] w fun e w' => e = .returned (.int .i64 (cmpF a b)) ∧ w = w' := by
  have cA := fun W (h : FlagG W) => rank_any a W h
  have cB := fun W (h : FlagG W) => rank_any b W h
  have cC := fun W => Tryz.strings_Compare ⟨a.toArray⟩ ⟨b.toArray⟩ W
  simp only [List.toList_toArray] at cC
  have la := rank_le a
  have lb := rank_le b
  obtain ⟨R, hR⟩ : ∃ R, cmpF a b = R := ⟨_, rfl⟩
  rw [hR]
  unfold cmpF at hR
  by_cases he : rankF a = rankF b
  · rw [if_pos he] at hR
    rw [hR] at cC
    rw [he] at cA
    have hz : (rankF b : Int) - (rankF b : Int) = 0 := Int.sub_self _
    generalize rankF b = r at *
    clear hR he
    go_enter Tryz.func43, Tryz.ntmps43
    go_wp2_with (first
      | (go_at_call 69; with_reducible refine (cA _ hG).mono ?_; rintro e w1 ⟨rfl, hw⟩; rw [← hw]; clear hw)
      | (go_at_call 69; with_reducible refine (cB _ hG).mono ?_; rintro e w1 ⟨rfl, hw⟩; rw [← hw]; clear hw)
      | (go_at_call 70; with_reducible refine (cC _).mono ?_; rintro e w1 ⟨rfl, hw⟩; rw [hw]; clear hw))
    go_ret
    exact ⟨rfl, rfl⟩
  · rw [if_neg he] at hR
    have hne : ((rankF a : Int) - (rankF b : Int) == 0) = false := by rw [beq_eq_false_iff_ne]; omega
    have hne2 : ¬((rankF a : Int) - (rankF b : Int) = 0) := by omega
    have HR := Lib.hid hR
    clear hR he
    generalize rankF a = ra at *
    generalize rankF b = rb at *
    go_enter Tryz.func43, Tryz.ntmps43
    go_wp2_with (first
      | (go_at_call 69; with_reducible refine (cA _ hG).mono ?_; rintro e w1 ⟨rfl, hw⟩; rw [← hw]; clear hw)
      | (go_at_call 69; with_reducible refine (cB _ hG).mono ?_; rintro e w1 ⟨rfl, hw⟩; rw [← hw]; clear hw)
      | (go_at_call 70; with_reducible refine (cC _).mono ?_; rintro e w1 ⟨rfl, hw⟩; rw [hw]; clear hw))
    go_ret
    exact ⟨by rw [← HR.out]; rfl, rfl⟩
end Go.Proofs.YteclajckkjocnaaGreatDoor
namespace Go.Proofs.YteclajckkjocnaaGreatDoor
open Go.RowKit Go.Shelf Go.Sort
set_option linter.unusedSimpArgs false
/-- texts short enough -/
def Short (l : List (List UInt8)) : Prop := l.length ≤ 100000 ∧ ∀ t ∈ l, t.length ≤ 100000
def namesF : List (List UInt8) → Nat ⊕ List (List UInt8)
  | [] => .inr []
  | s :: r => match nameF s with
    | .inl n => .inl n
    | .inr t => match namesF r with
      | .inl n => .inl n
      | .inr ns => .inr (t :: ns)
def joinN (acc : List (List UInt8)) : Nat ⊕ List (List UInt8) → Nat ⊕ List (List UInt8)
  | .inl n => .inl n
  | .inr ns => .inr (acc ++ ns)
/-- flags by their names, in order, each once; or what is wrong -/
def setF (l : List (List UInt8)) : Nat ⊕ List (List UInt8) := match namesF l with
  | .inl n => .inl n
  | .inr ns => if 12 < (canonF ns).length then .inl 4 else .inr (canonF ns)
theorem join_nil (r : Nat ⊕ List (List UInt8)) : joinN [] r = r := by cases r <;> rfl
theorem join_ok {acc : List (List UInt8)} {s t : List UInt8} {r : List (List UInt8)} (h : nameF s = .inr t) : joinN acc (namesF (s :: r)) = joinN (acc ++ [t]) (namesF r) := by
  rw [namesF, h]
  cases namesF r <;> simp [joinN]
theorem join_bad {acc : List (List UInt8)} {s : List UInt8} {n : Nat} {r : List (List UInt8)} (h : nameF s = .inl n) : joinN acc (namesF (s :: r)) = .inl n := by
  rw [namesF, h]; rfl
/-- what Set returns -/
def SetRes (R : Nat ⊕ List (List UInt8)) (v : Value) (W : World) : Prop := match R with
  | .inl n => v = .tuple #[.slice none 0 0, .iface 59 (.int .i64 (n : Int))]
  | .inr L => ∃ sv, v = .tuple #[sv, .nilIface] ∧ TRow W sv L
theorem flagG_lt {w : World} (h : FlagG w) : 0 < w.heap.size := h.elim fun _ h => (Array.getElem?_eq_some_iff.1 h).1
theorem sort_world_flag {w : World} (hG : FlagG w) {g m : Nat} {d : Array (List UInt8)} {os : Array Obj} (hg : g ≠ 0) : FlagG (sortWorld encStr w g 0 m d os) := by
  have h := (grownBy_sorted (w := w) (g := g) (n := m) (os := os) d).block 0 (flagG_lt hG) (fun e => hg (Option.some.inj e).symm)
  exact hG.elim fun T hG => ⟨T, h.trans hG⟩
theorem encStr_one : OneCell encStr := fun _ => rfl
/-- the sort of a row of texts that the call owns -/
theorem sortF_any (acc : List (List UInt8)) (ov : Value) (B : Nat) (w : World) (hown : w.ownsRow B 9 1 ov acc.length (acc.map encStr)) (hG : FlagG w) (hB : 0 < B) (hne : acc ≠ []) (hl : acc.length ≤ 1000000) :
    Calls Tryz.prog 42 #[ov, .func (.func 43) #[] #[]] w fun e w' => e = .returned (.tuple #[]) ∧ ∃ d : List (List UInt8), Hid (d.length = acc.length) ∧ w'.ownsRow B 9 1 ov acc.length (d.map encStr) ∧ w.grownBy w' ov.ownBlock ∧ Hid (Lib.compact d = canonF acc) := by
  rcases hown.2 with ⟨rfl, h0⟩ | ⟨g, cap, cur, rfl, hbase, hb, h1, h2, h3, h4⟩
  · exact absurd (List.eq_nil_of_length_eq_zero h0) hne
  · have hgne : g ≠ 0 := by omega
    have hcmp : CmpLays1 Tryz.prog 43 #[] encStr cmpF g 0 acc.toArray.size w := CmpReads.lays (fun m os dk _ x y => (order_any x y _ (sort_world_flag hG hgne)).mono (by rintro e w' ⟨rfl, rfl⟩; exact ⟨rfl, 0, rfl⟩))
    have hH : Holds encStr w g 0 acc.toArray := holds_of_block hb (by simpa using h4)
    have hc := Tryz.slices_SortFunc encStr encStr_one cmpF swo_lt 43 #[] g 0 cap acc.toArray w (enters_of Tryz.func43 (by kernel_rfl) rfl) hcmp hH (Array.getElem?_eq_some_iff.1 hb).1 (by simp; omega)
    refine hc.mono ?_
    rintro e w' ⟨rfl, d', n, os, hp, hs, rfl⟩
    have hsz : d'.toList.length = acc.length := by have := hp.1; simpa using this
    refine ⟨rfl, d'.toList, hsz, ?_, grownBy_sorted d', sort_compact hp hs⟩
    have := ownsRow_sorted (n := n) (os := os) hsz hbase hb h1 h2 h3
    simpa [sortWorld] using this
/-- the compaction of such a row -/
theorem compactF_any (d : List (List UInt8)) (n : Nat) (ov : Value) (B : Nat) (w : World) (hd : d.length = n) (hown : w.ownsRow B 9 1 ov n (d.map encStr)) (hne : 0 < n) (hn : n ≤ 1000000) :
    Calls Tryz.prog 44 #[ov] w fun e w' => ∃ ao cap, e = .returned (.slice ao (Lib.compact d).length cap) ∧ TRow w' (.slice ao (Lib.compact d).length cap) (Lib.compact d) ∧ w.grownBy w' ov.ownBlock := by
  subst hd
  rcases hown.2 with ⟨rfl, h0⟩ | ⟨g, cap, cur, rfl, hbase, hb, h1, h2, h3, h4⟩
  · omega
  · have hH : Holds encStr w g 0 d.toArray := holds_of_block hb (by simpa using h4)
    have hle : (Lib.compact d).length ≤ d.length := Lib.compact_length_le d
    refine (Tryz.slices_Compact_string g 0 cap d w hH (by omega) h1).mono ?_
    rintro e w' ⟨rfl, q, rfl⟩
    have hgr : w.grownBy (grow (putRow encStr (Sort.ahead w q) g 0 (Lib.compact d ++ List.replicate (d.length - (Lib.compact d).length) []).toArray) #[]) (some g) := grownBy_sorted _
    have ho := ownsRow_sorted (ss := d) (ts := Lib.compact d ++ List.replicate (d.length - (Lib.compact d).length) []) (n := q) (os := #[]) (by simp; omega) hbase hb h1 h2 h3
    rw [grow_empty] at hgr ho
    refine ⟨_, cap, rfl, ⟨⟨_, cap, rfl, by omega, ⟨by unfold maxLen at h2; omega, fun h => by cases h⟩, fun j t hj => ?_⟩, stag_cut (stag_owns ho)⟩, hgr⟩
    have hjl : j < (Lib.compact d).length := (List.getElem?_eq_some_iff.1 hj).1
    refine ⟨g, 0, rfl, Nat.lt_of_lt_of_le (Array.getElem?_eq_some_iff.1 hb).1 hgr.size, ?_⟩
    rw [Nat.zero_add]
    refine owns_cell ho ?_
    rw [List.getElem?_map, List.getElem?_append_left hjl, hj]
    rfl
set_option maxRecDepth 100000 in
set_option maxHeartbeats 8000000 in
theorem set_any (v : Value) (l : List (List UInt8)) (w : World) (hv : SRow w v l) (hl : Short l) (hG : FlagG w) :
    Calls Tryz.prog 16 #[v] w fun e w' => ∃ r, e = .returned r ∧ SetRes (setF l) r w' ∧ Below w.heap.size w w' := by
  obtain ⟨ao, cap, rfl, hcap, _, hcell⟩ := hv
  obtain ⟨hll, htl⟩ := hl
  have hGl := flagG_lt hG
  have HC := Lib.hid hcell
  have HT := Lib.hid htl
  obtain ⟨R, hR⟩ : ∃ R, setF l = R := ⟨_, rfl⟩
  rw [hR]
  have HR := Lib.hid hR
  clear hcell htl hR
  go_enter Tryz.func16, Tryz.ntmps16
  go_wp2_with fail
  go_loopg [4, 11] l.length (fun g4 s4 s11 wr => ∃ (k : Nat) (acc : List (List UInt8)) (ov : Value), k + g4 = l.length ∧ s11 = .int .i64 (k : Int) ∧ ov = s4 ∧ acc.length = k ∧ wr.ownsRow w.heap.size 9 1 ov acc.length (acc.map encStr) ∧ Below w.heap.size w wr ∧ (acc = [] → ov = .slice none 0 0) ∧ Hid (namesF l = joinN acc (namesF (l.drop k))))
  case atStart => exact ⟨0, [], _, by omega, rfl, rfl, rfl, World.ownsRow_nil _ _ _ _, Below.refl _ _, fun _ => rfl, by show _ = _; rw [List.drop_zero, join_nil]⟩
  case round =>
    obtain ⟨k, acc, ov, hk, rfl, rfl, hak, hown, hbr, hnil, HN⟩ := hrel
    by_cases hlt : k < l.length
    · obtain ⟨g', rfl⟩ : ∃ g', gk = g' + 1 := ⟨gk - 1, by omega⟩
      obtain ⟨s, hs⟩ : ∃ s, l[k]? = some s := ⟨l[k], List.getElem?_eq_getElem hlt⟩
      obtain ⟨b, off, rfl, hb, hc⟩ := HC.out k s hs
      have hd := (hbr.cell (p := ⟨b, off + k, none⟩) hb).trans hc
      have hsl := HT.out s (List.mem_of_getElem? hs)
      have hdr : l.drop k = s :: l.drop (k + 1) := by
        rw [List.drop_eq_getElem_cons hlt]
        rw [List.getElem?_eq_getElem hlt] at hs
        rw [Option.some.inj hs]
      have hN := HN.out
      rw [hdr] at hN
      have cN := fname_any s wr (by omega) (hG.below hbr)
      cases hn : nameF s with
      | inl n =>
        rw [join_bad hn] at hN
        rw [hn] at cN
        have hX : R = .inl n := by rw [← HR.out, setF, hN]
        have HX := Lib.hid hX
        have cN2 : Calls Tryz.prog 41 #[.string ⟨s.toArray⟩] wr fun e w' => e = .returned (.tuple #[.string ⟨#[]⟩, .iface 59 (.int .i64 (n : Int))]) ∧ Below wr.heap.size wr w' := cN
        clear hN hn hX hdr hs cN HN hc
        go_wp2_with (go_at_call 41; with_reducible refine cN2.mono ?_; rintro e w1 ⟨rfl, h⟩; have y := hbr.trans (h.mono hbr.size))
        go_ret2
        exact ⟨_, rfl, by rw [HX.out]; rfl, y⟩
      | inr t =>
        rw [join_ok hn] at hN
        rw [hn] at cN
        have HN2 : Hid (namesF l = joinN (acc ++ [t]) (namesF (l.drop (k + 1)))) := hN
        have cN2 : Calls Tryz.prog 41 #[.string ⟨s.toArray⟩] wr fun e w' => e = .returned (.tuple #[.string ⟨t.toArray⟩, .nilIface]) ∧ Below wr.heap.size wr w' := cN
        have HA := Lib.hid hak
        have hal : acc.length ≤ 100000 := by omega
        clear hN hn hdr hs cN HN hc hak hnil
        go_wp2_with (first
          | (go_at_call 41; with_reducible refine cN2.mono ?_; rintro e w1 ⟨rfl, h⟩; have y := hbr.trans (h.mono hbr.size); have o1 := owns_same hown (fun j o hj _ => below_same h hj))
          | (at_builtin; go_must (refine wpList_app1 rfl _ _ 35 rfl 9 Tryz.underlying35 str_info rfl w.heap.size _ _ _ _ rfl o1 _ rfl rfl ?hn (by decide) ?hb ?_)))
        case hn => omega
        case hb => exact y.size
        intro v' w2 o2 g2 hv2
        have y2 := below_app y y.size o1 g2
        have o3 : w2.ownsRow w.heap.size 9 1 v' (acc ++ [t]).length ((acc ++ [t]).map encStr) := by
          rw [List.length_append, List.map_append]; exact o2
        go_wp2_with fail
        go_roundg g'
        case measure => omega
        case rel => exact ⟨k + 1, acc ++ [t], _, by omega, by go_num, rfl, by rw [List.length_append, HA.out]; rfl, o3, y2, fun h => by simp at h, HN2.out⟩
    · have hd0 : l.drop k = [] := List.drop_eq_nil_of_le (by omega)
      have hN := HN.out
      rw [hd0] at hN
      have hN2 : namesF l = .inr acc := by rw [hN]; show joinN acc (.inr []) = _; simp [joinN]
      have hX : R = if 12 < (canonF acc).length then .inl 4 else .inr (canonF acc) := by rw [← HR.out, setF, hN2]
      have HX := Lib.hid hX
      clear hN hN2 hX hd0 HN
      by_cases hne : acc = []
      · obtain rfl := hnil hne
        subst hne
        have cS := fun W => Tryz.slices_SortFunc_none (α := List UInt8) none 0 (.func (.func 43) #[] #[]) W
        have cC := fun W => Tryz.slices_Compact_string_empty none 0 W
        clear hnil hown
        go_wp2_with (first
          | (go_at_call 42; with_reducible refine (cS _).mono ?_; rintro e w1 ⟨rfl, hw⟩; rw [hw]; clear hw)
          | (go_at_call 44; with_reducible refine (cC _).mono ?_; rintro e w1 ⟨rfl, hw⟩; rw [hw]; clear hw))
        go_ret2
        exact ⟨_, rfl, by rw [HX.out]; exact ⟨_, rfl, TRow.nil _⟩, hbr⟩
      · have cS := sortF_any acc ov w.heap.size wr hown (hG.below hbr) hGl hne (by omega)
        have hpos : 0 < acc.length := List.length_pos_iff.2 hne
        have cC := fun d W hd ho => compactF_any d acc.length ov w.heap.size W hd ho hpos (by omega)
        have hlt2 := hown.lt
        have cle := canon_len acc
        have hcl : (canonF acc).length ≤ 100000 := by omega
        clear hnil hne cle
        by_cases h12 : 12 < (canonF acc).length
        · have h12z : (12 : Int) < ((canonF acc).length : Int) := by omega
          go_wp2_with (first
            | (go_at_call 42; go_loud (with_reducible refine cS.mono ?_; rintro e w1 ⟨rfl, d, hd, o1, g1, hcd⟩; have y := hbr.grown g1 hbr.size (fun j h => (hlt2 j h).1); have cC1 := cC d w1 hd.out o1; rw [hcd.out] at cC1))
            | (go_at_call 44; go_loud (with_reducible refine cC1.mono ?_; rintro e w2 ⟨aq, cq, rfl, hr, g2⟩; have y := y.grown g2 y.size (fun j h => (hlt2 j h).1))))
          go_ret2
          exact ⟨_, rfl, by rw [HX.out, if_pos h12]; rfl, y⟩
        · have h12z : ¬((12 : Int) < ((canonF acc).length : Int)) := by omega
          go_wp2_with (first
            | (go_at_call 42; go_loud (with_reducible refine cS.mono ?_; rintro e w1 ⟨rfl, d, hd, o1, g1, hcd⟩; have y := hbr.grown g1 hbr.size (fun j h => (hlt2 j h).1); have cC1 := cC d w1 hd.out o1; rw [hcd.out] at cC1))
            | (go_at_call 44; go_loud (with_reducible refine cC1.mono ?_; rintro e w2 ⟨aq, cq, rfl, hr, g2⟩; have y := y.grown g2 y.size (fun j h => (hlt2 j h).1))))
          go_ret2
          exact ⟨_, rfl, by rw [HX.out, if_neg h12]; exact ⟨_, rfl, hr⟩, y⟩
end Go.Proofs.YteclajckkjocnaaGreatDoor
namespace Go.Proofs.YteclajckkjocnaaGreatDoor
open Go.RowKit Go.Shelf Go.Sort
set_option linter.unusedSimpArgs false
theorem map_getD (l : List (List UInt8)) {j : Nat} {t : List UInt8} (h : l[j]? = some t) : (l.map fun t => (⟨t.toArray⟩ : ByteArray)).getD j ByteArray.empty = ⟨t.toArray⟩ := by
  rw [List.getD, List.getElem?_map, h]; rfl
theorem contains_map (l : List (List UInt8)) (t : List UInt8) : Lib.containsS (l.map fun t => (⟨t.toArray⟩ : ByteArray)) ⟨t.toArray⟩ = decide (t ∈ l) := by
  rw [Bool.eq_iff_iff, Lib.containsS_iff, decide_eq_true_eq, List.mem_map]
  constructor
  · rintro ⟨x, hx, e⟩
    have e2 := congrArg (fun x : ByteArray => x.data.toList) e
    simp only [List.toList_toArray] at e2
    rw [← e2]; exact hx
  · intro h
    exact ⟨t, h, rfl⟩
theorem contains_any (v : Value) (l : List (List UInt8)) (t : List UInt8) (w : World) (hv : SRow w v l) (hl : l.length ≤ 1000000) :
    Calls Tryz.prog 55 #[v, .string ⟨t.toArray⟩] w fun e w' => e = .returned (.bool (decide (t ∈ l))) ∧ w = w' := by
  obtain ⟨ao, cap, rfl, hcap, _, hcell⟩ := hv
  cases l with
  | nil => exact (Tryz.slices_Contains_string_empty ao cap ⟨t.toArray⟩ w).mono (by rintro e w' ⟨rfl, rfl⟩; exact ⟨rfl, rfl⟩)
  | cons x r =>
    obtain ⟨b, off, rfl, _, _⟩ := hcell 0 x rfl
    have h := Tryz.slices_Contains_string b off (x :: r).length cap ((x :: r).map fun t => ⟨t.toArray⟩) ⟨t.toArray⟩ w (by simp) (by omega) (fun j hj => by
      obtain ⟨u, hu⟩ : ∃ u, (x :: r)[j]? = some u := ⟨(x :: r)[j]'(by simpa using hj), List.getElem?_eq_getElem _⟩
      obtain ⟨b', off', e1, _, e3⟩ := hcell j u hu
      cases e1
      rw [e3, map_getD _ hu])
    refine h.mono ?_
    rw [List.take_of_length_le (by simp), contains_map]
    rintro e w' ⟨rfl, rfl⟩
    exact ⟨rfl, rfl⟩
end Go.Proofs.YteclajckkjocnaaGreatDoor
