/- A block that holds bytes, as a string's conversion lays it; a row that is mapped place by place. No condition beyond those each names. The walks over flags.small, Name and what it calls: each returns what its plain function says. Conditions: flags.system lies as the program's text lays it. Rows of texts: a slice whose cells hold texts (SRow), in a block of texts (TRow). No condition beyond those each names. The walks over flags.Name, rank, order: each returns what its plain function says. Conditions: flags.system lies as the program's text lays it. The walks over flags.rank, order: each returns what its plain function says. Conditions: flags.system lies as the program's text lays it. The walk over flags.Set: it returns what its plain function says. Conditions: flags.system lies as the program's text lays it. -/
import Derived.Test.YtcahhnjponeeeaaGreatDoorRows
import Derived.Lib.ConvBytes
import Derived.Shelf.Strings.SlTrimAscii
import Derived.Deep.RegionHeld3
import Derived.OwnWalk
import Derived.Sort.OwnSorted
import Derived.Deep.AppendLies
import Derived.Lib.RowBridge
import Derived.Laws.AppendOwnNone
import Derived.IntWalk
import Derived.Test.YtcahhnjponeeeaaGreatDoorPkPSearch3
import Derived.Test.YtcahhnjponeeeaaGreatDoorPkShelf
import Derived.Test.YtcahhnjponeeeaaGreatDoorPkText
namespace Go.Proofs.YtcahhnjponeeeaaGreatDoor
open Go.RowKit
/-- a block that holds bytes, as '[]byte(s)' lays it -/
def BytesAt (W : World) (g : Nat) (l : List UInt8) : Prop := ∃ c : Array Value, W.heap[g]? = some (.cells c 5 (c.size, c.size + 1)) ∧ l.length ≤ c.size ∧ ∀ (j : Nat) (x : UInt8), l[j]? = some x → c[j]? = some (Value.int .u8 (x.toNat : Int))
theorem bytesAt_new (w : World) (s : ByteArray) : BytesAt (Lib.bytesWorld w 5 s) w.heap.size s.data.toList := by
  refine ⟨_, Lib.bytesWorld_at_new w _ s, ?_, ?_⟩
  · simp [Lib.bytesCells]
  · intro j x hj
    have hlt : j < s.data.size := by
      have := (List.getElem?_eq_some_iff.1 hj).1
      simpa using this
    unfold Lib.bytesCells
    rw [Array.getElem?_append_left (by simpa using hlt)]
    simp at hj
    simp [hj]
theorem BytesAt.cell {W : World} {g : Nat} {l : List UInt8} (h : BytesAt W g l) {j : Nat} {x : UInt8} (hj : l[j]? = some x) : W.cell? ⟨g, j, none⟩ = some (.int .u8 (x.toNat : Int)) := by
  obtain ⟨c, h1, _, h3⟩ := h
  rw [Lib.cell_of_heap h1]
  exact h3 j x hj
theorem BytesAt.free {W : World} {g : Nat} {l : List UInt8} (h : BytesAt W g l) {j : Nat} (hj : j < l.length) : W.frozen? ⟨g, j, none⟩ = false := by
  obtain ⟨c, h1, h2, _⟩ := h
  simp only [World.frozen?, h1]
  simp; omega
theorem BytesAt.put {W : World} {g : Nat} {l : List UInt8} (h : BytesAt W g l) (j : Nat) (y : UInt8) : BytesAt (W.setCell ⟨g, j, none⟩ (.int .u8 (y.toNat : Int))) g (l.set j y) := by
  obtain ⟨c, h1, h2, h3⟩ := h
  refine ⟨c.setIfInBounds j (.int .u8 (y.toNat : Int)), ?_, ?_, ?_⟩
  · rw [setCell_eq_setRow W g j c _ _ _ h1]
    simpa using setRow_heap W g c _ _ _ h1
  · simpa using h2
  · intro i x hi
    rw [List.getElem?_set] at hi
    rw [Array.getElem?_setIfInBounds]
    split at hi
    · subst j
      rw [if_pos rfl]
      split at hi
      · cases hi; rw [if_pos (by omega)]
      · cases hi
    · rename_i hne
      rw [if_neg hne]
      exact h3 i x hi
theorem BytesAt.row {W : World} {g : Nat} {l : List UInt8} (h : BytesAt W g l) (hlt : g < W.heap.size) (n cap : Nat) (hn : n = l.length) : RowAt W (.slice (some ⟨g, 0, none⟩) n cap) (Lib.byteCells l) := by
  subst hn
  refine Or.inr ⟨g, 0, cap, by rw [Lib.byteCells_length], hlt, ?_⟩
  intro j u hj
  simp [Lib.byteCells] at hj
  obtain ⟨x, hx, rfl⟩ := hj
  rw [Nat.zero_add]
  exact h.cell (by simpa using hx)
theorem bytesWorld_below (w : World) (s : ByteArray) : Below w.heap.size w (Lib.bytesWorld w 5 s) :=
  ⟨rfl, rfl, rfl, by rw [Lib.bytesWorld_size]; omega, fun j hj => Lib.bytesWorld_at_old w _ s j hj⟩
theorem map_step {f : UInt8 → UInt8} {l : List UInt8} {k : Nat} {c : UInt8} (hc : l[k]? = some c) : (l.take (k + 1)).map f ++ l.drop (k + 1) = ((l.take k).map f ++ l.drop k).set k (f c) := by
  have hk : k < l.length := (List.getElem?_eq_some_iff.1 hc).1
  rw [List.take_add_one, hc, List.map_append]
  rw [List.set_append_right _ _ (by simp; omega)]
  simp only [List.length_map, List.length_take, Nat.min_eq_left (Nat.le_of_lt hk), Nat.sub_self, List.append_assoc]
  congr 1
  rw [List.drop_eq_getElem_cons hk, List.set_cons_zero]
  simp
theorem map_same {f : UInt8 → UInt8} {l : List UInt8} {k : Nat} {c : UInt8} (hc : l[k]? = some c) (hf : f c = c) : (l.take (k + 1)).map f ++ l.drop (k + 1) = (l.take k).map f ++ l.drop k := by
  have hk : k < l.length := (List.getElem?_eq_some_iff.1 hc).1
  rw [List.take_add_one, hc, List.map_append, List.drop_eq_getElem_cons hk]
  have : l[k] = c := by rw [List.getElem?_eq_getElem hk] at hc; exact Option.some.inj hc
  simp [hf, this]
theorem map_cell {f : UInt8 → UInt8} {l : List UInt8} {k : Nat} {c : UInt8} (hc : l[k]? = some c) : ((l.take k).map f ++ l.drop k)[k]? = some c := by
  have hk : k < l.length := (List.getElem?_eq_some_iff.1 hc).1
  rw [List.getElem?_append_right (by simp; omega)]
  simp [Nat.min_eq_left (Nat.le_of_lt hk), hc]
end Go.Proofs.YtcahhnjponeeeaaGreatDoor
namespace Go.Proofs.YtcahhnjponeeeaaGreatDoor
open Go.RowKit Go.Shelf
set_option maxRecDepth 100000 in
set_option maxHeartbeats 1000000 in
theorem fsmall_any (s : ByteArray) (w : World) (hs : s.size ≤ 1000000000) :
    Calls Tryz.prog 127 #[.string s] w fun e w' => e = .returned (.string ⟨(smallL s.data.toList).toArray⟩) ∧ Below w.heap.size w w' := by
  have hlen : s.data.toList.length = s.size := (Lib.size_eq s).symm
  have he := Lib.run_convert_string_bytes w 9 110 5 s Tryz.underlying9 Tryz.underlying110 Tryz.underlying5
  have hB := bytesAt_new w s
  have hb := bytesWorld_below w s
  have hsz : w.heap.size < (Lib.bytesWorld w 5 s).heap.size := by rw [Lib.bytesWorld_size]; omega
  generalize Lib.bytesWorld w 5 s = w1 at he hB hb hsz
  generalize grownCap w s.size 0 5 = cap at he
  go_enter Tryz.func127, Tryz.ntmps127
  go_wp2_with fail
  go_loopg [10] s.size (fun g s10 wr => ∃ (k : Nat), k + g = s.size ∧ s10 = .int .i64 k ∧ w.heap.size < wr.heap.size ∧ BytesAt wr w.heap.size ((s.data.toList.take k).map smallC ++ s.data.toList.drop k) ∧ Below w.heap.size w wr)
  case atStart => exact ⟨0, by omega, rfl, hsz, by simpa using hB, hb⟩
  case round =>
    obtain ⟨k, hk, rfl, hszr, hBr, hbr⟩ := hrel
    by_cases hlt : k < s.size
    · obtain ⟨g', rfl⟩ : ∃ g', gk = g' + 1 := ⟨gk - 1, by omega⟩
      obtain ⟨c, hc⟩ : ∃ c, s.data.toList[k]? = some c := ⟨s.data.toList[k], List.getElem?_eq_getElem (by omega)⟩
      have hcell := hBr.cell (map_cell (f := smallC) hc)
      have hfr := hBr.free (j := k) (by simp; omega)
      have hcl := c.toNat_lt
      by_cases hA : 65 ≤ c.toNat ∧ c.toNat ≤ 90
      · have hf : smallC c = c + 32 := by unfold smallC; rw [if_pos hA]
        have hfn : (smallC c).toNat = c.toNat + 32 := by rw [hf, UInt8.toNat_add]; show (c.toNat + 32) % 256 = _; omega
        have hput := hBr.put k (smallC c)
        rw [← map_step hc, hfn] at hput
        have hbp := hbr.setCell (p := ⟨w.heap.size, k, none⟩) (Nat.le_refl _) (.int .u8 ((c.toNat + 32 : Nat) : Int))
        have hszp : w.heap.size < (wr.setCell ⟨w.heap.size, k, none⟩ (.int .u8 ((c.toNat + 32 : Nat) : Int))).heap.size := by simpa using hszr
        obtain ⟨C, hC⟩ : ∃ C : Int, (c.toNat : Int) = C := ⟨_, rfl⟩
        have hC2 : ((c.toNat + 32 : Nat) : Int) = C + 97 - 65 := by omega
        rw [hC] at hcell
        rw [hC2] at hput hbp hszp
        have h1 : 65 ≤ C := by omega
        have h2 : C ≤ 90 := by omega
        clear hc hfn hf hA hC hC2 hcl hBr
        go_wp2_with fail
        go_roundg g'
        case measure => omega
        case rel => exact ⟨k + 1, by omega, by go_num, hszp, hput, hbp⟩
      · have hf : smallC c = c := by unfold smallC; rw [if_neg hA]
        rw [← map_same hc hf] at hBr
        obtain ⟨C, hC⟩ : ∃ C : Int, (c.toNat : Int) = C := ⟨_, rfl⟩
        rw [hC] at hcell
        have h12 : C < 65 ∨ 90 < C := by omega
        clear hc hf hA hC hcl
        rcases h12 with h12 | h12
        · go_wp2_with fail
          go_roundg g'
          case measure => omega
          case rel => exact ⟨k + 1, by omega, by go_num, hszr, hBr, hbr⟩
        · have h65 : 65 ≤ C := by omega
          go_wp2_with fail
          go_roundg g'
          case measure => omega
          case rel => exact ⟨k + 1, by omega, by go_num, hszr, hBr, hbr⟩
    · have hk2 : k = s.size := by omega
      have hE : (s.data.toList.take k).map smallC ++ s.data.toList.drop k = smallL s.data.toList := by
        rw [List.take_of_length_le (by omega), List.drop_eq_nil_of_le (by omega), List.append_nil]; rfl
      rw [hE] at hBr
      have hrow := hBr.row hszr s.size cap (by simp [smallL, hlen])
      have hcv := run_bytes_text (P := Tryz.prog) hrow 110 9 5 Tryz.underlying110 Tryz.underlying5 Tryz.underlying9
      clear hE hBr hrow hk2 hk
      go_wp2_with fail
      go_ret
      exact ⟨rfl, hbr⟩
/-- the system's flags lie as the program's text lays them -/
def FlagG (w : World) : Prop := ∃ T, w.heap[2]? = some (.cells ((sysL.map fun t => Value.string ⟨t.toArray⟩).toArray) T (0, 0))
theorem FlagG.below {w w' : World} (h : FlagG w) (hb : Below w.heap.size w w') : FlagG w' := h.elim fun T h => ⟨T, below_same hb h⟩
theorem FlagG.cell {w : World} (h : FlagG w) {j : Nat} {t : List UInt8} (hj : sysL[j]? = some t) : w.cell? ⟨2, j, none⟩ = some (.string ⟨t.toArray⟩) := by
  obtain ⟨T, h⟩ := h
  rw [Lib.cell_of_heap h]
  simp [hj]
theorem sys_len {t : List UInt8} (h : t ∈ sysL) : t.length ≤ 9 := by
  have : sysL.all (fun t => decide (t.length ≤ 9)) = true := by decide
  simpa using List.all_eq_true.1 this t h
set_option maxRecDepth 100000 in
set_option maxHeartbeats 2000000 in
theorem fname1_any (t s : List UInt8) (B : Nat) (w : World) (ht : t.length ≤ 2000000) (hs : s.length ≤ 2000000) (hc : w.cell? ⟨B, 0, none⟩ = some (.string ⟨s.toArray⟩)) (hB : B < w.heap.size) :
    Calls Tryz.prog 126 #[.string ⟨t.toArray⟩, .pointer (some ⟨B, 0, none⟩)] w fun e w' => e = .returned (.bool (smallL t == smallL s)) ∧ Below w.heap.size w w' := by
  have cT := fun W => fsmall_any ⟨t.toArray⟩ W (by rw [text_size]; omega)
  have cS := fun W => fsmall_any ⟨s.toArray⟩ W (by rw [text_size]; omega)
  simp only [List.toList_toArray] at cT cS
  have y : Below w.heap.size w w.drew := (Below.refl _ _).drew
  have c : w.drew.cell? ⟨B, 0, none⟩ = some (.string ⟨s.toArray⟩) := hc
  go_enter Tryz.func126, Tryz.ntmps126
  go_wp2_with fail
  go_region_held3 (fun W => W.cell? ⟨B, 0, none⟩ = some (.string ⟨s.toArray⟩) ∧ Below w.heap.size w W)
    (first | exact ⟨c, y⟩)
    (first
      | (go_at_call 127; with_reducible refine (cT _).mono ?_; rintro e w1 ⟨rfl, h⟩; have c := (h.cell (p := ⟨B, 0, none⟩) (Nat.lt_of_lt_of_le hB y.size)).trans c; have y := y.trans (h.mono y.size))
      | (go_at_call 127; with_reducible refine (cS _).mono ?_; rintro e w1 ⟨rfl, h⟩; have c := (h.cell (p := ⟨B, 0, none⟩) (Nat.lt_of_lt_of_le hB y.size)).trans c; have y := y.trans (h.mono y.size)))
  go_wp2_with fail
  go_ret
  exact ⟨rfl, y⟩
/-- which of the system's flags is meant -/
def hitF (s t : List UInt8) : Bool := smallL t == smallL s
def IdxIs (s : List UInt8) (r : Int) : Prop := (r = -1 ∧ sysL.find? (hitF s) = none) ∨ ∃ (k : Nat) (t : List UInt8), r = (k : Int) ∧ k < 5 ∧ sysL[k]? = some t ∧ sysL.find? (hitF s) = some t
set_option maxRecDepth 100000 in
set_option maxHeartbeats 4000000 in
theorem fidx_any (s : List UInt8) (B : Nat) (w : World) (hs : s.length ≤ 2000000) (hc : w.cell? ⟨B, 0, none⟩ = some (.string ⟨s.toArray⟩)) (hB : B < w.heap.size) (hG : FlagG w) :
    Calls Tryz.prog 125 #[.slice (some ⟨2, 0, none⟩) 5 5, .func (.func 126) #[] #[.pointer (some ⟨B, 0, none⟩)]] w fun e w' => ∃ r : Int, e = .returned (.int .i64 r) ∧ IdxIs s r ∧ Below w.heap.size w w' := by
  go_enter Tryz.func125, Tryz.ntmps125
  go_wp2_with fail
  go_loopg [8] 5 (fun g8 s8 wr => ∃ (k : Nat), k + g8 = 5 ∧ s8 = .int .i64 (k : Int) ∧ Below w.heap.size w wr ∧ Hid (sysL.find? (hitF s) = (sysL.drop k).find? (hitF s)))
  case atStart => exact ⟨0, by omega, rfl, Below.refl _ _, rfl⟩
  case round =>
    obtain ⟨k, hk, rfl, hbr, HF⟩ := hrel
    by_cases hlt : k < 5
    · obtain ⟨g', rfl⟩ : ∃ g', gk = g' + 1 := ⟨gk - 1, by omega⟩
      obtain ⟨t, ht⟩ : ∃ t, sysL[k]? = some t := ⟨sysL[k]'hlt, List.getElem?_eq_getElem hlt⟩
      have hd := (hG.below hbr).cell ht
      have hdr : sysL.drop k = t :: sysL.drop (k + 1) := by
        rw [List.drop_eq_getElem_cons hlt]
        rw [List.getElem?_eq_getElem hlt] at ht
        rw [Option.some.inj ht]
      have hF := HF.out
      rw [hdr, List.find?_cons] at hF
      have htl := sys_len (List.mem_of_getElem? ht)
      have cN := fname1_any t s B wr (by omega) hs ((hbr.cell (p := ⟨B, 0, none⟩) hB).trans hc) (Nat.lt_of_lt_of_le hB hbr.size)
      have HT := Lib.hid ht
      cases hh : hitF s t with
      | true =>
        rw [hh] at hF
        have HF2 : Hid (sysL.find? (hitF s) = some t) := hF
        have hh2 : (smallL t == smallL s) = true := hh
        rw [hh2] at cN
        clear hF hdr ht hh hh2 HF
        go_wp2_with (go_at_call 126; with_reducible refine cN.mono ?_; rintro e w1 ⟨rfl, h⟩; have y := hbr.trans (h.mono hbr.size))
        go_ret
        exact ⟨(k : Int), rfl, Or.inr ⟨k, t, rfl, hlt, HT.out, HF2.out⟩, y⟩
      | false =>
        rw [hh] at hF
        have HF2 : Hid (sysL.find? (hitF s) = (sysL.drop (k + 1)).find? (hitF s)) := hF
        have hh2 : (smallL t == smallL s) = false := hh
        rw [hh2] at cN
        clear hF hdr ht hh hh2 HF
        go_wp2_with (go_at_call 126; with_reducible refine cN.mono ?_; rintro e w1 ⟨rfl, h⟩; have y := hbr.trans (h.mono hbr.size))
        go_roundg g'
        case measure => omega
        case rel => exact ⟨k + 1, by omega, by go_num, y, HF2.out⟩
    · have hF := HF.out
      obtain rfl : k = 5 := by omega
      have HF2 : Hid (sysL.find? (hitF s) = none) := hF
      clear hF HF
      go_wp2_with fail
      go_ret
      exact ⟨-1, rfl, Or.inl ⟨rfl, HF2.out⟩, hbr⟩
end Go.Proofs.YtcahhnjponeeeaaGreatDoor
namespace Go.Proofs.YtcahhnjponeeeaaGreatDoor
open Go.RowKit Go.Shelf Go.Sort
/-- a slice of texts -/
def SRow (w : World) (v : Value) (l : List (List UInt8)) : Prop := ∃ ao cap, v = .slice ao l.length cap ∧ l.length ≤ cap ∧ (cap ≤ 9223372036854775807 ∧ (ao = none → cap = 0)) ∧ ∀ (j : Nat) (t : List UInt8), l[j]? = some t → ∃ b off, ao = some ⟨b, off, none⟩ ∧ b < w.heap.size ∧ w.cell? ⟨b, off + j, none⟩ = some (.string ⟨t.toArray⟩)
theorem SRow.below {w w' : World} {v : Value} {l : List (List UInt8)} (h : SRow w v l) (hb : Below w.heap.size w w') : SRow w' v l := by
  obtain ⟨ao, cap, h1, h2, h3, h4⟩ := h
  refine ⟨ao, cap, h1, h2, h3, fun j t hj => ?_⟩
  obtain ⟨b, off, e1, e2, e3⟩ := h4 j t hj
  exact ⟨b, off, e1, Nat.lt_of_lt_of_le e2 hb.size, (hb.cell (p := ⟨b, off + j, none⟩) e2).trans e3⟩
theorem SRow.nil (w : World) : SRow w (.slice none 0 0) [] := ⟨none, 0, rfl, Nat.le_refl _, ⟨by decide, fun _ => rfl⟩, fun j t h => by simp at h⟩
/-- the row's block holds strings, as its kind says -/
def STag (w : World) (v : Value) : Prop := ∀ a n c, v = .slice (some a) n c → ∃ cur fz, w.heap[a.block]? = some (.cells cur 9 fz)
theorem STag.below {w w' : World} {v : Value} (h : STag w v) (hb : Below w.heap.size w w') : STag w' v := fun a n c e => by
  obtain ⟨cur, fz, hh⟩ := h a n c e
  exact ⟨cur, fz, (hb.block _ (Array.getElem?_eq_some_iff.1 hh).1).trans hh⟩
/-- a slice of texts in a block of texts -/
def TRow (w : World) (v : Value) (l : List (List UInt8)) : Prop := SRow w v l ∧ STag w v
theorem TRow.below {w w' : World} {v : Value} {l : List (List UInt8)} (h : TRow w v l) (hb : Below w.heap.size w w') : TRow w' v l := ⟨h.1.below hb, h.2.below hb⟩
theorem TRow.row {w : World} {v : Value} {l : List (List UInt8)} (h : TRow w v l) : SRow w v l := h.1
theorem TRow.nil (w : World) : TRow w (.slice none 0 0) [] := ⟨SRow.nil w, fun _ _ _ e => by cases e⟩
end Go.Proofs.YtcahhnjponeeeaaGreatDoor
namespace Go.Proofs.YtcahhnjponeeeaaGreatDoor
open Go.RowKit Go.Shelf
set_option maxRecDepth 1000000 in
theorem fzero92 : (Tryz.prog.info? 140).map (fun i => (i.zero, i.size)) = some (some (.agg (Array.replicate 256 (.bool false))), 256) := by kernel_rfl
/-- the letters of flags, as the program writes them -/
def lettersL : List UInt8 := [97, 98, 99, 100, 101, 102, 103, 104, 105, 106, 107, 108, 109, 110, 111, 112, 113, 114, 115, 116, 117, 118, 119, 120, 121, 122, 65, 66, 67, 68, 69, 70, 71, 72, 73, 74, 75, 76, 77, 78, 79, 80, 81, 82, 83, 84, 85, 86, 87, 88, 89, 90, 48, 49, 50, 51, 52, 53, 54, 55, 56, 57, 95, 36]
theorem letters_has (c : UInt8) : lettersL.contains c = letterC c := u8_all (p := fun c => lettersL.contains c = letterC c) (by decide +kernel) c
theorem dropWhile_nil {α : Type} (p : α → Bool) : ∀ l : List α, l.dropWhile p = [] ↔ l.all p = true
  | [] => by simp
  | x :: l => by
    rw [List.dropWhile_cons, List.all_cons]
    cases h : p x
    · simp
    · simp [dropWhile_nil p l]
theorem all_rev {α : Type} (p : α → Bool) (l : List α) : l.reverse.all p = l.all p := by simp
theorem trim_nil (s : List UInt8) : Lib.trimS s lettersL = [] ↔ s.all letterC = true := by
  have e : (fun c => lettersL.contains c) = letterC := funext letters_has
  unfold Lib.trimS Lib.trimRightS Lib.trimLeftS
  rw [e]
  rw [dropWhile_nil, all_rev]
  constructor
  · intro h
    have h2 := List.takeWhile_append_dropWhile (p := letterC) (l := s.reverse)
    rw [← all_rev, ← h2, List.all_append, h, Bool.and_true]
    exact List.all_takeWhile
  · intro h
    rw [(dropWhile_nil letterC s.reverse).2 (by rw [all_rev]; exact h)]
    rfl
theorem trim_let (l : List UInt8) (W : World) (hs : l.length ≤ 2000000) :
    Calls Tryz.prog 50 #[.string ⟨l.toArray⟩, .string ⟨#[97, 98, 99, 100, 101, 102, 103, 104, 105, 106, 107, 108, 109, 110, 111, 112, 113, 114, 115, 116, 117, 118, 119, 120, 121, 122, 65, 66, 67, 68, 69, 70, 71, 72, 73, 74, 75, 76, 77, 78, 79, 80, 81, 82, 83, 84, 85, 86, 87, 88, 89, 90, 48, 49, 50, 51, 52, 53, 54, 55, 56, 57, 95, 36]⟩] W fun e w' => e = .returned (.string ⟨(Lib.trimS l lettersL).toArray⟩) ∧ Below W.heap.size W w' :=
  Any.strings_Trim_laid Tryz.lays160 fzero92 ⟨l.toArray⟩ ⟨lettersL.toArray⟩ W (by rw [text_size]; omega) (by decide) (ascii_of_all (by decide))
/-- what Name returns -/
def nameV : Nat ⊕ List UInt8 → Value
  | .inl n => .tuple #[.string ⟨#[]⟩, .iface 33 (.int .i64 (n : Int))]
  | .inr t => .tuple #[.string ⟨t.toArray⟩, .nilIface]
theorem pre_head (s : List UInt8) : Lib.hasPrefix s [92] = decide (s.head? = some 92) := by
  cases s with
  | nil => rfl
  | cons c r =>
    show (92 == c && List.isPrefixOf [] r) = _
    by_cases h : c = 92
    · subst h; rfl
    · have h2 : ¬ (92 : UInt8) = c := fun e => h e.symm
      simp [h, h2]
set_option maxRecDepth 100000 in
set_option maxHeartbeats 4000000 in
theorem fname_any (s : List UInt8) (w : World) (hs : s.length ≤ 2000000) (hG : FlagG w) :
    Calls Tryz.prog 103 #[.string ⟨s.toArray⟩] w fun e w' => e = .returned (nameV (nameF s)) ∧ Below w.heap.size w w' := by
  have hts := text_size s
  have cH := fun W => Tryz.strings_HasPrefix ⟨s.toArray⟩ ⟨#[92]⟩ W
  have e92 : (⟨#[92]⟩ : ByteArray).data.toList = [92] := rfl
  have y0 := (Below.refl w.heap.size w).alloc (Nat.le_refl _) (.cells #[.string ⟨s.toArray⟩] 9)
  have x0 := World.heap_alloc_new w (.cells #[.string ⟨s.toArray⟩] 9)
  have c0 : (w.alloc (.cells #[.string ⟨s.toArray⟩] 9)).cell? ⟨w.heap.size, 0, none⟩ = some (.string ⟨s.toArray⟩) := by rw [Lib.cell_of_heap x0]; rfl
  simp only [List.toList_toArray] at cH
  rw [pre_head] at cH
  obtain ⟨R, hR⟩ : ∃ R, nameF s = R := ⟨_, rfl⟩
  rw [hR]
  unfold nameF at hR
  by_cases h92 : s.head? = some 92
  · rw [decide_eq_true h92] at cH
    rw [if_pos h92] at hR
    have cI := fidx_any s w.heap.size _ hs c0 (by rw [alloc_size]; omega) (hG.below y0)
    have HR : Hid ((match sysL.find? (hitF s) with | some t => (.inr t : Nat ⊕ List UInt8) | none => .inl 3) = R) := hR
    clear hR h92 x0
    cases hf : sysL.find? (hitF s) with
    | none =>
      have cI2 := cI.mono (R' := fun e w' => e = .returned (.int .i64 (-1)) ∧ Below (w.alloc (.cells #[.string ⟨s.toArray⟩] 9)).heap.size (w.alloc (.cells #[.string ⟨s.toArray⟩] 9)) w') (by
        rintro e w' ⟨r, rfl, hi, hb⟩
        rcases hi with ⟨rfl, _⟩ | ⟨k, t, rfl, _, _, h2⟩
        · exact ⟨rfl, hb⟩
        · rw [hf] at h2; cases h2)
      have hR2 := HR.out
      rw [hf] at hR2
      have HR2 := Lib.hid hR2
      clear cI hR2 HR hf
      go_enter Tryz.func103, Tryz.ntmps103
      go_wp2_with (first
        | (go_at_call 55; with_reducible refine (cH _).mono ?_; rintro e w1 ⟨rfl, hw⟩; rw [hw]; clear hw)
        | (go_at_call 125; go_loud (with_reducible refine cI2.mono ?_; rintro e w2 ⟨rfl, h⟩; have y := y0.trans (h.mono y0.size))))
      go_ret2
      exact ⟨by rw [← HR2.out]; rfl, y⟩
    | some t =>
      have cI2 := cI.mono (R' := fun e w' => ∃ k : Nat, e = .returned (.int .i64 (k : Int)) ∧ k < 5 ∧ Hid (sysL[k]? = some t) ∧ Below (w.alloc (.cells #[.string ⟨s.toArray⟩] 9)).heap.size (w.alloc (.cells #[.string ⟨s.toArray⟩] 9)) w') (by
        rintro e w' ⟨r, rfl, hi, hb⟩
        rcases hi with ⟨rfl, h2⟩ | ⟨k, t', rfl, hk, ht, h2⟩
        · rw [hf] at h2; cases h2
        · rw [hf] at h2; cases h2; exact ⟨k, rfl, hk, ht, hb⟩)
      have hR2 := HR.out
      rw [hf] at hR2
      have HR2 := Lib.hid hR2
      clear cI hR2 HR hf
      go_enter Tryz.func103, Tryz.ntmps103
      go_wp2_with (first
        | (go_at_call 55; with_reducible refine (cH _).mono ?_; rintro e w1 ⟨rfl, hw⟩; rw [hw]; clear hw)
        | (go_at_call 125; go_loud (with_reducible refine cI2.mono ?_; rintro e w2 ⟨k, rfl, hk, HT, h⟩; have y := y0.trans (h.mono y0.size); have d := (hG.below y).cell HT.out)))
      go_ret2
      exact ⟨by rw [← HR2.out]; rfl, y⟩
  · rw [decide_eq_false h92] at cH
    rw [if_neg h92] at hR
    by_cases hemp : s = []
    · subst hemp
      have HR : Hid ((.inl 3 : Nat ⊕ List UInt8) = R) := by
        rw [if_pos (Or.inl rfl)] at hR
        exact hR
      clear hR h92 x0
      go_enter Tryz.func103, Tryz.ntmps103
      go_wp2_with (first
        | (go_at_call 55; with_reducible refine (cH _).mono ?_; rintro e w1 ⟨rfl, hw⟩; rw [hw]; clear hw))
      go_ret2
      exact ⟨by rw [← HR.out]; rfl, y0⟩
    · have he1 : (⟨s.toArray⟩ : ByteArray).toList.isEmpty = false := by rw [w_empty]; simpa using hemp
      have he2 : s.isEmpty = false := by simpa using hemp
      have cT := fun W => trim_let s W hs
      have htn := trim_nil s
      have hTl : (Lib.trimS s lettersL).length ≤ s.length := by
        unfold Lib.trimS Lib.trimRightS Lib.trimLeftS
        have := (List.dropWhile_sublist (fun c => lettersL.contains c) (l := (List.dropWhile (fun c => lettersL.contains c) s.reverse).reverse)).length_le
        have := (List.dropWhile_sublist (fun c => lettersL.contains c) (l := s.reverse)).length_le
        simp only [List.length_reverse] at *
        omega
      generalize Lib.trimS s lettersL = T at cT htn hTl
      cases ha : s.all letterC with
      | false =>
        have hT : T ≠ [] := fun h => by rw [htn.1 h] at ha; cases ha
        have he3 : (⟨T.toArray⟩ : ByteArray).toList.isEmpty = false := by rw [w_empty]; simpa using hT
        have he4 : T.isEmpty = false := by simpa using hT
        have HR : Hid ((.inl 3 : Nat ⊕ List UInt8) = R) := by
          rw [if_pos (Or.inr ha)] at hR
          exact hR
        clear hR h92 x0 hemp hT htn ha
        go_enter Tryz.func103, Tryz.ntmps103
        go_wp2_with (first
          | (go_at_call 55; with_reducible refine (cH _).mono ?_; rintro e w1 ⟨rfl, hw⟩; rw [hw]; clear hw)
          | (go_at_call 50; go_loud (with_reducible refine (cT _).mono ?_; rintro e w2 ⟨rfl, h⟩; have y := y0.trans (h.mono y0.size))))
        go_ret2
        exact ⟨by rw [← HR.out]; rfl, y⟩
      | true =>
        have hT : T = [] := htn.2 ha
        subst hT
        rw [if_neg (by rintro (h | h); exact hemp h; rw [ha] at h; cases h)] at hR
        by_cases h20 : 20 < s.length
        · have HR : Hid ((.inl 4 : Nat ⊕ List UInt8) = R) := by
            rw [if_pos h20] at hR
            exact hR
          have h20z : (20 : Int) < (s.length : Int) := by omega
          clear hR h92 x0 hemp htn ha
          go_enter Tryz.func103, Tryz.ntmps103
          go_wp2_with (first
            | (go_at_call 55; with_reducible refine (cH _).mono ?_; rintro e w1 ⟨rfl, hw⟩; rw [hw]; clear hw)
            | (go_at_call 50; go_loud (with_reducible refine (cT _).mono ?_; rintro e w2 ⟨rfl, h⟩; have y := y0.trans (h.mono y0.size); have d := below_cell h c0)))
          go_ret2
          exact ⟨by rw [← HR.out]; rfl, y⟩
        · have HR : Hid ((.inr s : Nat ⊕ List UInt8) = R) := by
            rw [if_neg h20] at hR
            exact hR
          have h20z : ¬((20 : Int) < (s.length : Int)) := by omega
          clear hR h92 x0 hemp htn ha
          go_enter Tryz.func103, Tryz.ntmps103
          go_wp2_with (first
            | (go_at_call 55; with_reducible refine (cH _).mono ?_; rintro e w1 ⟨rfl, hw⟩; rw [hw]; clear hw)
            | (go_at_call 50; go_loud (with_reducible refine (cT _).mono ?_; rintro e w2 ⟨rfl, h⟩; have y := y0.trans (h.mono y0.size); have d := below_cell h c0)))
          go_ret2
          exact ⟨by rw [← HR.out]; rfl, y⟩
end Go.Proofs.YtcahhnjponeeeaaGreatDoor
namespace Go.Proofs.YtcahhnjponeeeaaGreatDoor
open Go.RowKit Go.Shelf
end Go.Proofs.YtcahhnjponeeeaaGreatDoor
namespace Go.Proofs.YtcahhnjponeeeaaGreatDoor
open Go.RowKit Go.Shelf Go.Sort
end Go.Proofs.YtcahhnjponeeeaaGreatDoor
