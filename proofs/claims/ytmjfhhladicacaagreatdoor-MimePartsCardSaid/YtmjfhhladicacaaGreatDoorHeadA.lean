/- The walks over head.Small, head.Great: each returns what its plain function says. No condition beyond those each names. -/
import Derived.Test.YtmjfhhladicacaaGreatDoorRows
import Derived.Test.YtmjfhhladicacaaGreatDoorKit2
import Derived.Test.YtmjfhhladicacaaGreatDoorPHead2
import Derived.Lib.ConvBytes
namespace Go.Proofs.YtmjfhhladicacaaGreatDoor
open Go.RowKit

/-- a block that holds bytes, as '[]byte(s)' lays it -/
def BytesAt (W : World) (g : Nat) (l : List UInt8) : Prop := ∃ c : Array Value, W.heap[g]? = some (.cells c 5 (c.size, c.size + 1)) ∧ l.length ≤ c.size ∧ ∀ (j : Nat) (x : UInt8), l[j]? = some x → c[j]? = some (Value.int .u8 (x.toNat : Int))
theorem bytesAt_new (w : World) (s : ByteArray) : BytesAt (Lib.bytesWorld w 5 s) w.heap.size s.data.toList := by
  refine ⟨_, Lib.bytesWorld_at_new w _ s, ?_, ?_⟩
  · simp [Lib.bytesCells]
  · intro j x hj
    have hlt : j < s.data.size := by
      have := (List.getElem?_eq_some_iff.1 hj).1
      simpa using this
    unfold Lib.bytesCells
    rw [Array.getElem?_append_left (by simpa using hlt)]
    simp at hj
    simp [hj]
theorem BytesAt.cell {W : World} {g : Nat} {l : List UInt8} (h : BytesAt W g l) {j : Nat} {x : UInt8} (hj : l[j]? = some x) : W.cell? ⟨g, j, none⟩ = some (.int .u8 (x.toNat : Int)) := by
  obtain ⟨c, h1, _, h3⟩ := h
  rw [Lib.cell_of_heap h1]
  exact h3 j x hj
theorem BytesAt.free {W : World} {g : Nat} {l : List UInt8} (h : BytesAt W g l) {j : Nat} (hj : j < l.length) : W.frozen? ⟨g, j, none⟩ = false := by
  obtain ⟨c, h1, h2, _⟩ := h
  simp only [World.frozen?, h1]
  simp; omega
theorem BytesAt.put {W : World} {g : Nat} {l : List UInt8} (h : BytesAt W g l) (j : Nat) (y : UInt8) : BytesAt (W.setCell ⟨g, j, none⟩ (.int .u8 (y.toNat : Int))) g (l.set j y) := by
  obtain ⟨c, h1, h2, h3⟩ := h
  refine ⟨c.setIfInBounds j (.int .u8 (y.toNat : Int)), ?_, ?_, ?_⟩
  · rw [setCell_eq_setRow W g j c _ _ _ h1]
    simpa using setRow_heap W g c _ _ _ h1
  · simpa using h2
  · intro i x hi
    rw [List.getElem?_set] at hi
    rw [Array.getElem?_setIfInBounds]
    split at hi
    · subst j
      rw [if_pos rfl]
      split at hi
      · cases hi; rw [if_pos (by omega)]
      · cases hi
    · rename_i hne
      rw [if_neg hne]
      exact h3 i x hi
theorem BytesAt.row {W : World} {g : Nat} {l : List UInt8} (h : BytesAt W g l) (hlt : g < W.heap.size) (n cap : Nat) (hn : n = l.length) : RowAt W (.slice (some ⟨g, 0, none⟩) n cap) (Lib.byteCells l) := by
  subst hn
  refine Or.inr ⟨g, 0, cap, by rw [Lib.byteCells_length], hlt, ?_⟩
  intro j u hj
  simp [Lib.byteCells] at hj
  obtain ⟨x, hx, rfl⟩ := hj
  rw [Nat.zero_add]
  exact h.cell (by simpa using hx)
theorem bytesWorld_below (w : World) (s : ByteArray) : Below w.heap.size w (Lib.bytesWorld w 5 s) :=
  ⟨rfl, rfl, rfl, by rw [Lib.bytesWorld_size]; omega, fun j hj => Lib.bytesWorld_at_old w _ s j hj⟩

theorem map_step {f : UInt8 → UInt8} {l : List UInt8} {k : Nat} {c : UInt8} (hc : l[k]? = some c) : (l.take (k + 1)).map f ++ l.drop (k + 1) = ((l.take k).map f ++ l.drop k).set k (f c) := by
  have hk : k < l.length := (List.getElem?_eq_some_iff.1 hc).1
  rw [List.take_add_one, hc, List.map_append]
  rw [List.set_append_right _ _ (by simp; omega)]
  simp only [List.length_map, List.length_take, Nat.min_eq_left (Nat.le_of_lt hk), Nat.sub_self, List.append_assoc]
  congr 1
  rw [List.drop_eq_getElem_cons hk, List.set_cons_zero]
  simp
theorem map_same {f : UInt8 → UInt8} {l : List UInt8} {k : Nat} {c : UInt8} (hc : l[k]? = some c) (hf : f c = c) : (l.take (k + 1)).map f ++ l.drop (k + 1) = (l.take k).map f ++ l.drop k := by
  have hk : k < l.length := (List.getElem?_eq_some_iff.1 hc).1
  rw [List.take_add_one, hc, List.map_append, List.drop_eq_getElem_cons hk]
  have : l[k] = c := by rw [List.getElem?_eq_getElem hk] at hc; exact Option.some.inj hc
  simp [hf, this]
theorem map_cell {f : UInt8 → UInt8} {l : List UInt8} {k : Nat} {c : UInt8} (hc : l[k]? = some c) : ((l.take k).map f ++ l.drop k)[k]? = some c := by
  have hk : k < l.length := (List.getElem?_eq_some_iff.1 hc).1
  rw [List.getElem?_append_right (by simp; omega)]
  simp [Nat.min_eq_left (Nat.le_of_lt hk), hc]

set_option maxRecDepth 100000 in
set_option maxHeartbeats 1000000 in
theorem small_any (s : ByteArray) (w : World) (hs : s.size ≤ 1000000000) :
    Calls Tryz.prog 46 #[.string s] w fun e w' => e = .returned (.string ⟨(smallL s.data.toList).toArray⟩) ∧ Below w.heap.size w w' := by
  have hlen : s.data.toList.length = s.size := (Lib.size_eq s).symm
  have he := Lib.run_convert_string_bytes w 9 54 5 s Tryz.underlying9 Tryz.underlying54 Tryz.underlying5
  have hB := bytesAt_new w s
  have hb := bytesWorld_below w s
  have hsz : w.heap.size < (Lib.bytesWorld w 5 s).heap.size := by rw [Lib.bytesWorld_size]; omega
  generalize Lib.bytesWorld w 5 s = w1 at he hB hb hsz
  generalize grownCap w s.size 0 5 = cap at he
  go_enter Tryz.func46, Tryz.ntmps46
  go_wp2_with fail
  go_loopg [10] s.size (fun g s10 wr => ∃ (k : Nat), k + g = s.size ∧ s10 = .int .i64 k ∧ w.heap.size < wr.heap.size ∧ BytesAt wr w.heap.size ((s.data.toList.take k).map smallC ++ s.data.toList.drop k) ∧ Below w.heap.size w wr)
  case atStart => exact ⟨0, by omega, rfl, hsz, by simpa using hB, hb⟩
  case round =>
    obtain ⟨k, hk, rfl, hszr, hBr, hbr⟩ := hrel
    by_cases hlt : k < s.size
    · obtain ⟨g', rfl⟩ : ∃ g', gk = g' + 1 := ⟨gk - 1, by omega⟩
      obtain ⟨c, hc⟩ : ∃ c, s.data.toList[k]? = some c := ⟨s.data.toList[k], List.getElem?_eq_getElem (by omega)⟩
      have hcell := hBr.cell (map_cell (f := smallC) hc)
      have hfr := hBr.free (j := k) (by simp; omega)
      have hcl := c.toNat_lt
      by_cases hA : 65 ≤ c.toNat ∧ c.toNat ≤ 90
      · have hf : smallC c = c + 32 := by unfold smallC; rw [if_pos hA]
        have hfn : (smallC c).toNat = c.toNat + 32 := by rw [hf, UInt8.toNat_add]; show (c.toNat + 32) % 256 = _; omega
        have hput := hBr.put k (smallC c)
        rw [← map_step hc, hfn] at hput
        have hbp := hbr.setCell (p := ⟨w.heap.size, k, none⟩) (Nat.le_refl _) (.int .u8 ((c.toNat + 32 : Nat) : Int))
        have hszp : w.heap.size < (wr.setCell ⟨w.heap.size, k, none⟩ (.int .u8 ((c.toNat + 32 : Nat) : Int))).heap.size := by simpa using hszr
        obtain ⟨C, hC⟩ : ∃ C : Int, (c.toNat : Int) = C := ⟨_, rfl⟩
        have hC2 : ((c.toNat + 32 : Nat) : Int) = C + 97 - 65 := by omega
        rw [hC] at hcell
        rw [hC2] at hput hbp hszp
        have h1 : 65 ≤ C := by omega
        have h2 : C ≤ 90 := by omega
        clear hc hfn hf hA hC hC2 hcl hBr
        go_wp2_with fail
        go_roundg g'
        case measure => omega
        case rel => exact ⟨k + 1, by omega, by go_num, hszp, hput, hbp⟩
      · have hf : smallC c = c := by unfold smallC; rw [if_neg hA]
        rw [← map_same hc hf] at hBr
        obtain ⟨C, hC⟩ : ∃ C : Int, (c.toNat : Int) = C := ⟨_, rfl⟩
        rw [hC] at hcell
        have h12 : C < 65 ∨ 90 < C := by omega
        clear hc hf hA hC hcl
        rcases h12 with h12 | h12
        · go_wp2_with fail
          go_roundg g'
          case measure => omega
          case rel => exact ⟨k + 1, by omega, by go_num, hszr, hBr, hbr⟩
        · have h65 : 65 ≤ C := by omega
          go_wp2_with fail
          go_roundg g'
          case measure => omega
          case rel => exact ⟨k + 1, by omega, by go_num, hszr, hBr, hbr⟩
    · have hk2 : k = s.size := by omega
      have hE : (s.data.toList.take k).map smallC ++ s.data.toList.drop k = smallL s.data.toList := by
        rw [List.take_of_length_le (by omega), List.drop_eq_nil_of_le (by omega), List.append_nil]; rfl
      rw [hE] at hBr
      have hrow := hBr.row hszr s.size cap (by simp [smallL, hlen])
      have hcv := run_bytes_text (P := Tryz.prog) hrow 54 9 5 Tryz.underlying54 Tryz.underlying5 Tryz.underlying9
      clear hE hBr hrow hk2 hk
      go_wp2_with fail
      go_ret
      exact ⟨rfl, hbr⟩
end Go.Proofs.YtmjfhhladicacaaGreatDoor
