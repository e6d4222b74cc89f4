/- The walk over (*strings.Replacer).build of a replacer of single bytes by texts of other lengths than one. No condition beyond those it names. -/
import Derived.Test.YtclelkoefeiloaaGreatDoorRepB
import Derived.Lib.LazyBuf
namespace Go.Proofs.YtclelkoefeiloaaGreatDoor
open Go.RowKit Go.Shelf Go.Sort
set_option linter.unusedSimpArgs false

def newsL : List (UInt8 × List UInt8) → List (List UInt8)
  | [] => []
  | p :: r => [p.1] :: p.2 :: newsL r
theorem newsL_len (ps : List (UInt8 × List UInt8)) : (newsL ps).length = 2 * ps.length := by
  induction ps with
  | nil => rfl
  | cons p r ih => simp [newsL, ih]; omega
theorem newsL_key (ps : List (UInt8 × List UInt8)) (k : Nat) : (newsL ps)[2 * k]? = ps[k]?.map fun p => [p.1] := by
  induction ps generalizing k with
  | nil => simp [newsL]
  | cons p r ih =>
    cases k with
    | zero => rfl
    | succ k =>
      show ([p.1] :: p.2 :: newsL r)[2 * k + 2]? = _
      simpa using ih k
theorem newsL_new (ps : List (UInt8 × List UInt8)) (k : Nat) : (newsL ps)[2 * k + 1]? = ps[k]?.map fun p => p.2 := by
  induction ps generalizing k with
  | nil => simp [newsL]
  | cons p r ih =>
    cases k with
    | zero => rfl
    | succ k =>
      show ([p.1] :: p.2 :: newsL r)[2 * k + 1 + 2]? = _
      simpa using ih k
set_option maxRecDepth 100000 in
set_option maxHeartbeats 8000000 in
theorem build_any (ps : List (UInt8 × List UInt8)) (R : Nat) (sv : Value) (w : World) (h4 : w.cell? ⟨R, 4, none⟩ = some sv) (hsv : SRow w sv (newsL ps)) (hp2 : 2 ≤ ps.length) (hp : ps.length ≤ 10) (hn : ∀ p ∈ ps, p.2.length ≠ 1 ∧ p.2.length ≤ 100) (hd : (ps.map (·.1)).Nodup) :
    Calls Tryz.prog 61 #[.pointer (some ⟨R, 0, none⟩)] w fun e w' => ∃ B, e = .returned (.iface 149 (.pointer (some ⟨B, 0, none⟩))) ∧ w.heap.size ≤ B ∧ RepC w.heap.size B w' ps (ps.map (·.1)).reverse ∧ Below w.heap.size w w' := by
  have hlen := newsL_len ps
  obtain ⟨ao, cap, rfl, hcap, _, hc⟩ := hsv
  have HC := Lib.hid hc
  have HN := Lib.hid hn
  obtain ⟨L, hL⟩ : ∃ L, (newsL ps).length = L := ⟨_, rfl⟩
  rw [hL] at hlen hcap h4
  have i2 : ((L : Int) == 2) = false := by simp; omega
  go_enter Tryz.func61, Tryz.ntmps61
  go_wp2_with fail
  go_loopg [4, 5] ps.length (fun g s4 s5 wr => ∃ k : Nat, k + g = ps.length ∧ s5 = .int .i64 (2 * k : Nat) ∧ s4 = .bool (decide (k = 0)) ∧ w = wr)
  case atStart => exact ⟨0, by omega, rfl, rfl, rfl⟩
  case round =>
    obtain ⟨k, hk, rfl, rfl, hw⟩ := hrel
    subst hw
    by_cases hlt : k < ps.length
    · obtain ⟨g', rfl⟩ : ∃ g', gk = g' + 1 := ⟨gk - 1, by omega⟩
      obtain ⟨p, hpk⟩ : ∃ p, ps[k]? = some p := ⟨ps[k], List.getElem?_eq_getElem hlt⟩
      obtain ⟨b, off, rfl, hb, k1⟩ := HC.out (2 * k) _ (by rw [newsL_key, hpk]; rfl)
      obtain ⟨b', off', e1, _, k2⟩ := HC.out (2 * k + 1) _ (by rw [newsL_new, hpk]; rfl)
      cases e1
      have hpn := HN.out p (List.mem_of_getElem? hpk)
      have q1 : (⟨[p.1].toArray⟩ : ByteArray).size = 1 := rfl
      have q2 := text_size p.2
      have q3 : ¬ (p.2.length : Int) = 1 := by omega
      go_wp2_with fail
      go_roundg g'
      case measure => omega
      case rel => exact ⟨k + 1, by omega, by go_num, by simp, rfl⟩
    · obtain ⟨i0, hi, hi0, hi1, hi2⟩ := info_parts str_info
      go_upto_region 27 with (refine wpList_make_own _ rfl _ _ 41 rfl w.heap.size 9 i0 _ 1 Tryz.underlying41 hi hi0 hi1 .i64 .i64 _ ps.length rfl rfl rfl ?b2 ?b3 ?b4 ?_)
      case b2 => rw [hi2]; omega
      case b3 => unfold maxLen; omega
      case b4 => exact Nat.le_refl _
      intro w1 o1 g1
      have hst := store_rep w1 (.slice (some ⟨w.heap.size, 0, none⟩) 0 ps.length) rfl
      have hR := RepC.start o1
      have y1 := (Below.refl w.heap.size w).grown g1 (Nat.le_refl _) (fun j h => by cases h)
      have y2 := y1.alloc y1.size (.cells (repCells (.slice (some ⟨w.heap.size, 0, none⟩) 0 ps.length)) 148)
      have hB := y1.size
      go_upto_region 27 with fail
      obtain ⟨w2, hw2⟩ : ∃ w2, w2 = w1.alloc (.cells (repCells (.slice (some ⟨w.heap.size, 0, none⟩) 0 ps.length)) 148) := ⟨_, rfl⟩
      obtain ⟨B, hBB⟩ : ∃ B, B = w1.heap.size := ⟨_, rfl⟩
      rw [← hw2] at hR y2 ⊢
      rw [← hBB] at hR hB ⊢
      clear hst hw2 hBB o1 g1
      go_wp2_with fail
      go_loopg [12] ps.length (fun g s12 wr => s12 = .int .i64 (2 * (g : Int) - 2) ∧ g ≤ ps.length ∧ RepC w.heap.size B wr (ps.drop g) ((ps.drop g).map (·.1)).reverse ∧ Below w.heap.size w wr)
      case atStart =>
        exact ⟨rfl, Nat.le_refl _, by rw [List.drop_length]; exact hR, y2⟩
      case round =>
        obtain ⟨rfl, hgl, HR, hbr⟩ := hrel
        cases gk with
        | zero =>
          rw [List.drop_zero] at HR
          go_wp2_with fail
          go_ret
          exact ⟨B, rfl, hB, HR, hbr⟩
        | succ g =>
          obtain ⟨p, hpk⟩ : ∃ p, ps[g]? = some p := ⟨ps[g], List.getElem?_eq_getElem (by omega)⟩
          have hdr : ps.drop g = p :: ps.drop (g + 1) := by
            rw [List.drop_eq_getElem_cons (by omega)]
            rw [List.getElem?_eq_getElem (by omega)] at hpk
            rw [Option.some.inj hpk]
          have hnod : (p.1 :: (ps.drop (g + 1)).map (·.1)).Nodup := by
            have h1 : ((ps.drop g).map (·.1)).Nodup := by
              rw [List.map_drop]
              exact hd.sublist (List.drop_sublist _ _)
            rwa [hdr] at h1
          have hlk : (ps.drop (g + 1)).lookup p.1 = none := by
            rw [List.lookup_eq_none_iff]
            intro q hq
            have := (List.nodup_cons.1 hnod).1
            simp only [beq_eq_false_iff_ne, bne_iff_ne, ne_eq]
            intro e
            exact this (e ▸ List.mem_map_of_mem hq)
          obtain ⟨b, off, rfl, hbl, k1⟩ := HC.out (2 * g) _ (by rw [newsL_key, hpk]; rfl)
          obtain ⟨b', off', e1, _, k2⟩ := HC.out (2 * g + 1) _ (by rw [newsL_new, hpk]; rfl)
          cases e1
          have hpn := HN.out p (List.mem_of_getElem? hpk)
          have c1 := (hbr.cell (p := ⟨b, off + 2 * g, none⟩) hbl).trans k1
          have c2 := (hbr.cell (p := ⟨b, off + (2 * g + 1), none⟩) hbl).trans k2
          have hkr : ((ps.drop g).map (·.1)).reverse = ((ps.drop (g + 1)).map (·.1)).reverse ++ [p.1] := by rw [hdr]; simp
          obtain ⟨KS, hKS⟩ : ∃ KS, ((ps.drop (g + 1)).map (·.1)).reverse = KS := ⟨_, rfl⟩
          rw [hKS] at HR hkr
          have hKL : (keyL KS).length = ps.length - (g + 1) := by rw [← hKS]; simp [keyL]
          have hKL2 : (keyL KS).length ≤ 10 := by omega
          have HKR := Lib.hid hkr
          clear hKL hKS hkr
          obtain ⟨v, hv, hvn⟩ := HR.val p.1
          rw [hlk] at hvn
          obtain rfl : v = .slice none 0 0 := Option.some.inj hvn
          obtain ⟨tv, ht, ho⟩ := HR.list
          obtain ⟨ta, tc, rfl⟩ := owns_val ho
          have q1 : (⟨[p.1].toArray⟩ : ByteArray).size = 1 := rfl
          have q2 := text_size p.2
          have e12 : (2 * ((g + 1 : Nat) : Int) - 2) = ((2 * g : Nat) : Int) := by omega
          rw [e12]
          clear hvn hnod k1 k2 hd e12
          have hix : ((⟨#[p.1]⟩ : ByteArray)[0]'Nat.zero_lt_one) = p.1 := rfl
          have hlt := p.1.toNat_lt
          have hlt2 : (p.1.toNat : Int) < 256 := by omega
          have hnil : ∀ W, (binOp .eql 93 (.slice none 0 0) (.slice none 0 0)).run Tryz.prog W = .ok (.bool true) W := fun W => Lib.run_eql_slice_nil_nil W _ _ Tryz.underlying93
          go_upto_region 33 with fail
          have hrow : RowAt (wr.alloc (.cells #[.int .u8 (p.1.toNat : Int)] 5)) (.slice (some ⟨wr.heap.size, 0, none⟩) 1 1) (Lib.byteCells [p.1]) := by
            refine Or.inr ⟨_, 0, 1, rfl, by rw [alloc_size]; exact Nat.lt_succ_self _, fun j u hj => ?_⟩
            rw [Nat.zero_add, Lib.cell_of_heap (World.heap_alloc_new wr _)]
            simpa [Lib.byteCells] using hj
          have hcv := run_bytes_text (P := Tryz.prog) hrow 93 9 5 Tryz.underlying93 Tryz.underlying5 Tryz.underlying9
          have z1 := alloc_size wr (.cells #[.int .u8 (p.1.toNat : Int)] 5)
          have yb : Below wr.heap.size wr ((wr.alloc (.cells #[.int .u8 (p.1.toNat : Int)] 5)).alloc (.cells #[.string ⟨#[p.1]⟩] 9)) := ((Below.refl wr.heap.size wr).alloc (Nat.le_refl _) _).alloc (by rw [alloc_size]; exact Nat.le_succ _) _
          have zb : ((wr.alloc (.cells #[.int .u8 (p.1.toNat : Int)] 5)).alloc (.cells #[.string ⟨#[p.1]⟩] 9)).heap.size = wr.heap.size + 2 := by rw [alloc_size, alloc_size]
          have HS2 := Lib.hid zb
          have HE : Hid (∀ (j : Nat) (t : List UInt8), [[p.1]][j]? = some t → ∃ b off, some (⟨wr.heap.size + 1, 0, none⟩ : Addr) = some ⟨b, off, none⟩ ∧ b < ((wr.alloc (.cells #[.int .u8 (p.1.toNat : Int)] 5)).alloc (.cells #[.string ⟨#[p.1]⟩] 9)).heap.size ∧ ((wr.alloc (.cells #[.int .u8 (p.1.toNat : Int)] 5)).alloc (.cells #[.string ⟨#[p.1]⟩] 9)).cell? ⟨b, off + j, none⟩ = some (.string ⟨t.toArray⟩)) := by
            intro j t hj
            refine ⟨wr.heap.size + 1, 0, rfl, by rw [zb]; omega, ?_⟩
            have hc := World.heap_alloc_new (wr.alloc (.cells #[.int .u8 (p.1.toNat : Int)] 5)) (.cells #[.string ⟨#[p.1]⟩] 9)
            rw [z1] at hc
            rw [Nat.zero_add, Lib.cell_of_heap hc]
            cases j with
            | zero => cases hj; rfl
            | succ j => simp at hj
          have HO := Lib.hid ((ho.alloc (.cells #[.int .u8 (p.1.toNat : Int)] 5)).alloc (.cells #[.string ⟨#[p.1]⟩] 9))
          have HR2 := HR.keep yb
          have HT := Lib.hid (below_cell yb ht)
          have HY := Lib.hid ((hbr.alloc hbr.size (.cells #[.int .u8 (p.1.toNat : Int)] 5)).alloc (by rw [z1]; exact Nat.le_succ_of_le hbr.size) (.cells #[.string ⟨#[p.1]⟩] 9))
          have hwr := hbr.size
          clear hrow zb yb
          go_upto_region 34 with (at_builtin; go_must (refine wpList_appS rfl _ _ 41 rfl 9 Tryz.underlying41 str_info rfl w.heap.size (.slice ta (keyL KS).length tc) (keyL KS) _ rfl HO.out (some ⟨wr.heap.size + 1, 0, none⟩) [[p.1]] 1 rfl (fun h => by cases h) HE.out ?hn (by decide) ?hb ?_))
          case hn => omega
          case hb => omega
          intro tv' w3 o3 g3
          obtain ⟨ta', tc', rfl⟩ := owns_val o3
          have o4 : w3.ownsRow w.heap.size 9 1 (.slice ta' ((keyL KS).length + 1) tc') (keyL (KS ++ [p.1])).length ((keyL (KS ++ [p.1])).map encStr) := by
            rw [keyL_snoc, List.length_append, List.map_append]
            exact o3
          obtain ⟨s256, f256⟩ := HR2.same HT.out g3
          have HR3 := HR2.grow HT.out g3 o4
          have y3 := HY.out.grown g3 (by rw [HS2.out]; omega) (fun j h => (HO.out.lt j h).1)
          have y4 := y3.setCell (p := ⟨B, 256, none⟩) hB (.slice ta' ((keyL KS).length + 1) tc')
          clear o3 o4 g3 HO HE HT HS2 HY HR2 ho z1 hcv
          go_upto_region 34 with fail
          obtain ⟨w4, hw4⟩ : ∃ w4, w4 = w3.setCell ⟨B, 256, none⟩ (.slice ta' ((keyL KS).length + 1) tc') := ⟨_, rfl⟩
          rw [← hw4] at HR3 y4 ⊢
          clear hw4 y3 s256 f256
          have he := Lib.run_convert_string_bytes w4 9 93 5 ⟨p.2.toArray⟩ Tryz.underlying9 Tryz.underlying93 Tryz.underlying5
          have hBy := bytesAt_new w4 ⟨p.2.toArray⟩
          have hb := bytesWorld_below w4 ⟨p.2.toArray⟩
          have hsz : w4.heap.size < (Lib.bytesWorld w4 5 ⟨p.2.toArray⟩).heap.size := by rw [Lib.bytesWorld_size]; omega
          have gc1 := grownCap_ge w4 p.2.length 0 5
          have gc2 : grownCap w4 p.2.length 0 5 ≤ maxLen := grownCap_le_maxLen _ _ _ _ (by unfold maxLen; omega)
          unfold maxLen at gc2
          rw [q2] at he
          generalize Lib.bytesWorld w4 5 ⟨p.2.toArray⟩ = w5 at he hBy hb hsz
          generalize grownCap w4 p.2.length 0 5 = cp at he gc1 gc2
          have HR5 := HR3.keep hb
          obtain ⟨v5, hv5, _⟩ := HR5.val p.1
          have f5 := HR5.free p.1.toNat
          have HR6 := HR5.put (c := p.1) (x := p.2) y4.size hsz gc1 gc2 hBy
          have y6 := (y4.trans (hb.mono y4.size)).setCell (p := ⟨B, p.1.toNat, none⟩) hB (.slice (some ⟨w4.heap.size, 0, none⟩) p.2.length cp)
          rw [← hdr, ← HKR.out] at HR6
          clear HR3 HR5 hb hBy y4
          go_wp2_with fail
          go_roundg g
          case measure => omega
          case rel => exact ⟨by go_num, by omega, HR6, y6⟩
end Go.Proofs.YtclelkoefeiloaaGreatDoor
