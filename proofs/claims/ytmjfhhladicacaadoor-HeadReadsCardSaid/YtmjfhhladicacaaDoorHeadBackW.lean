/- The walk over letterboxkeep.HeadBack: it returns true, whatever it is given. Condition: bytealg.MaxLen lies. -/
import Derived.Test.YtmjfhhladicacaaDoorHeadG
import Derived.Test.YtmjfhhladicacaaDoorHeadH
import Derived.Test.YtmjfhhladicacaaDoorPHead5
import Derived.Deep.LoopGhost
namespace Go.Proofs.YtmjfhhladicacaaDoor
open Go.RowKit Go.Shelf

theorem row_open {W : World} {v : Value} {l : List Fld} (hv : FldRow W v l) : ∃ ao cap, v = .slice ao l.length cap ∧ (∀ (j : Nat) (f : Fld), l[j]? = some f → ∃ b off, ao = some ⟨b, off, none⟩ ∧ b < W.heap.size ∧ W.cell? ⟨b, off + j * 2, none⟩ = some (.string ⟨f.1.toArray⟩) ∧ W.cell? ⟨b, off + j * 2 + 1, none⟩ = some (.string ⟨f.2.toArray⟩)) := by
  rcases hv with ⟨rfl, rfl⟩ | ⟨b, off, cap, rfl, hlt, hc⟩
  · exact ⟨none, 0, rfl, fun j f hj => by simp at hj⟩
  · exact ⟨_, cap, rfl, fun j f hj => ⟨b, off, rfl, hlt, (hc j f hj).1, (hc j f hj).2⟩⟩

set_option maxRecDepth 100000 in
set_option maxHeartbeats 2000000 in
theorem equal_same (u v : Value) (l : List Fld) (w : World) (hu : FldRow w u l) (hv : FldRow w v l) (hl : Lens l) :
    Calls Tryd.prog 33 #[u, v] w fun e w' => e = .returned (.bool true) ∧ Below w.heap.size w w' := by
  obtain ⟨ao, cap, rfl, hao⟩ := row_open hu
  obtain ⟨bo, cap', rfl, hbo⟩ := row_open hv
  have HA := Lib.hid hao
  have HB := Lib.hid hbo
  clear hao hbo
  have hll := hl.1
  go_enter Tryd.func33, Tryd.ntmps33
  go_wp2_with fail
  go_loopg [13] l.length (fun g s13 wr => ∃ (k : Nat), k + g = l.length ∧ s13 = .int .i64 k ∧ Below w.heap.size w wr)
  case atStart => exact ⟨0, by omega, rfl, Below.refl _ _⟩
  case round =>
    obtain ⟨k, hk, rfl, hbr⟩ := hrel
    by_cases hlt : k < l.length
    · obtain ⟨g', rfl⟩ : ∃ g', gk = g' + 1 := ⟨gk - 1, by omega⟩
      obtain ⟨f, hf⟩ : ∃ f, l[k]? = some f := ⟨l[k], List.getElem?_eq_getElem hlt⟩
      obtain ⟨b, off, rfl, hb, c1, c2⟩ := HA.out k f hf
      obtain ⟨b', off', rfl, hb', c3, c4⟩ := HB.out k f hf
      have d1 := (hbr.cell (p := ⟨b, off + k * 2, none⟩) hb).trans c1
      have d2 := (hbr.cell (p := ⟨b, off + k * 2 + 1, none⟩) hb).trans c2
      have d3 := (hbr.cell (p := ⟨b', off' + k * 2, none⟩) hb').trans c3
      have d4 := (hbr.cell (p := ⟨b', off' + k * 2 + 1, none⟩) hb').trans c4
      clear c1 c2 c3 c4 hf
      go_wp2_with fail
      go_region
      go_wp2_with fail
      go_roundg g'
      case measure => omega
      case rel => exact ⟨k + 1, by omega, by go_num, hbr.drew⟩
    · go_wp2_with fail
      go_ret
      exact ⟨rfl, hbr⟩

theorem row_at {W : World} {ao : Option Addr} {cap k : Nat} {f : Fld} {l : List Fld} (h : FldRow W (.slice ao l.length cap) l) (hf : l[k]? = some f) : ∃ b off, ao = some ⟨b, off, none⟩ ∧ b < W.heap.size ∧ W.cell? ⟨b, off + k * 2, none⟩ = some (.string ⟨f.1.toArray⟩) ∧ W.cell? ⟨b, off + k * 2 + 1, none⟩ = some (.string ⟨f.2.toArray⟩) := by
  rcases h with ⟨_, h⟩ | ⟨b, off, cap', h, hlt, hc⟩
  · rw [h] at hf; simp at hf
  · simp only [Value.slice.injEq] at h
    obtain ⟨rfl, _, _⟩ := h
    exact ⟨b, off, rfl, hlt, (hc k f hf).1, (hc k f hf).2⟩
theorem upper_small (n : List UInt8) : smallL (Lib.toUpperA n) = smallL n := by
  have key : ∀ c : UInt8, smallC (Lib.upperB c) = smallC c := fun c => u8_all (p := fun c => smallC (Lib.upperB c) = smallC c) (by decide +kernel) c
  simp [smallL, Lib.toUpperA, key]

set_option maxRecDepth 100000 in
set_option maxHeartbeats 8000000 in
theorem headBack_any (s b : List UInt8) (w : World) (hs : s.length ≤ 9223372036854775807) (hb : b.length ≤ 9223372036854775807) (hM : MaxL w) :
    Calls Tryd.prog 6 #[.string ⟨s.toArray⟩, .string ⟨b.toArray⟩] w fun e w' => e = .returned (.bool true) ∧ Below w.heap.size w w' := by
  have hts := text_size s
  have htb := text_size b
  by_cases h1000 : (1000 : Int) < (s.length : Int)
  · go_enter Tryd.func6, Tryd.ntmps6
    go_wp2_with fail
    go_ret
    exact ⟨rfl, Below.refl _ _⟩
  by_cases h500 : (500 : Int) < (b.length : Int)
  · go_enter Tryd.func6, Tryd.ntmps6
    go_wp2_with fail
    go_ret
    exact ⟨rfl, Below.refl _ _⟩
  have y := Below.refl w.heap.size w
  have cH := headed_any w hM
  have cS := fun W (hW : MaxL W) => splitHd_any s W (by omega) hW
  have hcat := splitHd_cat s
  have hcl := congrArg List.length hcat
  rw [List.length_append] at hcl
  generalize (splitHd s).1 = h1 at cS hcat hcl
  generalize (splitHd s).2 = h2 at cS hcat hcl
  have a1 : (⟨h1.toArray⟩ : ByteArray) ++ ⟨h2.toArray⟩ = ⟨s.toArray⟩ := by rw [text_cat, hcat]
  have th1 := text_size h1
  have th2 := text_size h2
  clear hcat
  cases hf : fieldsL s with
  | inl x =>
    have cF := fun W (hW : MaxL W) => fields_err s x W hf (by omega) hW
    clear hf
    go_enter Tryd.func6, Tryd.ntmps6
    go_wp2_with (first
      | (go_at_call 7; with_reducible refine cH.mono ?_; rintro e wX ⟨rfl, hbX⟩; have y := y.trans (hbX.mono y.size))
      | (go_at_call 22; with_reducible refine (cS _ (hM.below y)).mono ?_; rintro e wX ⟨rfl, hbX⟩; have y := y.trans (hbX.mono y.size))
      | (go_at_call 8; with_reducible refine (cF _ (hM.below y)).mono ?_; rintro e wX ⟨g, rfl, k1, k2, hbX⟩; have y := y.trans (hbX.mono y.size)))
    go_ret
    exact ⟨rfl, y⟩
  | inr l =>
    have cF := fun W (hW : MaxL W) => fields_ok s l W hf (by omega) hW
    have hok := fieldsL_ok hf
    have hpl := print_le hf
    have hag := fields_again b hok.1 hok.2
    have hsp := splitHd_print l b hok.1
    obtain ⟨t, ht⟩ : ∃ t, t = printF l := ⟨_, rfl⟩
    rw [← ht] at hpl hag hsp
    obtain ⟨tb, htb2⟩ : ∃ tb, tb = t ++ b := ⟨_, rfl⟩
    rw [← htb2] at hag hsp
    have hlb : tb.length ≤ 9000 := by rw [htb2, List.length_append]; omega
    have a2 : (⟨t.toArray⟩ : ByteArray) ++ ⟨b.toArray⟩ = ⟨tb.toArray⟩ := by rw [htb2]; exact text_cat _ _
    have tt := text_size t
    have cF2 := fun W (hW : MaxL W) => fields_ok tb l W hag hlb hW
    have cS2 := fun W (hW : MaxL W) => splitHd_any tb W (by omega) hW
    rw [hsp] at cS2
    simp only at cS2
    have cP := fun u W (hr : FldRow W u l) (hL : Lens l) => print_any u l W hr hL
    rw [← ht] at cP
    have HOK := Lib.hid hok.1
    have hl40 := hok.2
    have htl : t.length ≤ 6000 := by omega
    clear hf hok hpl hag hsp ht htb2
    go_enter Tryd.func6, Tryd.ntmps6
    go_wp2_with (first
      | (go_at_call 7; with_reducible refine cH.mono ?_; rintro e wX ⟨rfl, hbX⟩; have y := y.trans (hbX.mono y.size))
      | (go_at_call 22; with_reducible refine (cS _ (hM.below y)).mono ?_; rintro e wX ⟨rfl, hbX⟩; have y := y.trans (hbX.mono y.size))
      | (go_at_call 22; with_reducible refine (cS2 _ (hM.below y)).mono ?_; rintro e wX ⟨rfl, hbX⟩; have y := y.trans (hbX.mono y.size); have r1 := r1.below hbX)
      | (go_at_call 8; with_reducible refine (cF _ (hM.below y)).mono ?_; rintro e wX ⟨ao, cap, rfl, r1, hL, hbX⟩; have y := y.trans (hbX.mono y.size))
      | (go_at_call 28; with_reducible refine (cP _ _ r1 hL).mono ?_; rintro e wX ⟨rfl, hbX⟩; have y := y.trans (hbX.mono y.size); have r1 := r1.below hbX)
      | (go_at_call 8; with_reducible refine (cF2 _ (hM.below y)).mono ?_; rintro e wX ⟨ao2, cap2, rfl, r2, hL2, hbX⟩; have y := y.trans (hbX.mono y.size); have r1 := r1.below hbX)
      | (go_at_call 33; with_reducible refine (equal_same _ _ l _ r2 r1 hL).mono ?_; rintro e wX ⟨rfl, hbX⟩; have y := y.trans (hbX.mono y.size); have r1 := r1.below hbX))
    go_loopg [11] l.length (fun g s11 wr => ∃ (k : Nat), k + g = l.length ∧ s11 = .int .i64 k ∧ Below wX.heap.size wX wr)
    case atStart => exact ⟨0, by omega, rfl, Below.refl _ _⟩
    case round =>
      obtain ⟨k, hk, rfl, hbr⟩ := hrel
      have rr := r1.below hbr
      by_cases hlt : k < l.length
      · obtain ⟨g', rfl⟩ : ∃ g', gk = g' + 1 := ⟨gk - 1, by omega⟩
        obtain ⟨f, hf⟩ : ∃ f, l[k]? = some f := ⟨l[k], List.getElem?_eq_getElem hlt⟩
        have hof := HOK.out f (List.mem_of_getElem? hf)
        have hfl := (hL.2 f (List.mem_of_getElem? hf)).1
        obtain ⟨bq, off, rfl, hbq, d1, d2⟩ := row_at rr hf
        obtain ⟨x, hx, hx0⟩ := get_there (m := Lib.toUpperA f.1) hf (upper_small f.1)
        have hul : (Lib.toUpperA f.1).length = f.1.length := by simp [Lib.toUpperA]
        have hnl : f.1.length ≤ 60 := by
          have := hof.1
          unfold nameL at this
          simp only [Bool.and_eq_true, decide_eq_true_eq] at this
          exact this.2.2
        have hasc : ∀ (j : Nat) (c : UInt8), (⟨f.1.toArray⟩ : ByteArray).data.toList[j]? = some c → c.toNat < 128 := fun j c hc => by
          have := name_byte hof.1 c (List.mem_of_getElem? hc)
          omega
        have cU := fun W => Tryd.strings_ToUpper_ascii ⟨f.1.toArray⟩ W (by rw [text_size]; omega) hasc
        have cG := fun u W (hr : FldRow W u l) => get_any u l (Lib.toUpperA f.1) W hr hL (by omega)
        rw [hx] at cG
        obtain ⟨f1, f2⟩ := f
        simp only at cU cG d1 d2 hx0
        generalize Lib.toUpperA f1 = U at cU cG
        clear hf hx hof hasc hul hfl hnl
        by_cases hk0 : k = 0
        · subst hk0
          obtain rfl := hx0 rfl
          rw [Nat.zero_mul, Nat.add_zero] at d1 d2
          clear hx0
          go_wp2_with (first
          | (go_at_call 34; with_reducible refine (cU _).mono ?_; rintro e w1 ⟨rfl, k1⟩; have z1 := hbr.trans (k1.mono hbr.size); have rr1 := rr.below k1)
          | (go_at_call 9; with_reducible refine (cG _ _ rr1).mono ?_; rintro e w2 ⟨rfl, k2⟩; have z2 := z1.trans (k2.mono z1.size); have q2 := (k2.cell (p := ⟨bq, off + 1, none⟩) (Nat.lt_of_lt_of_le hbq k1.size)).trans ((k1.cell (p := ⟨bq, off + 1, none⟩) hbq).trans d2)))
          go_roundg g'
          case measure => omega
          case rel => exact ⟨0 + 1, by omega, by go_num, z2⟩
        · have hkz : ((k : Int) == 0) = false := by rw [beq_eq_false_iff_ne]; omega
          clear hx0
          go_wp2_with (first
          | (go_at_call 34; with_reducible refine (cU _).mono ?_; rintro e w1 ⟨rfl, k1⟩; have z1 := hbr.trans (k1.mono hbr.size); have rr1 := rr.below k1)
          | (go_at_call 9; with_reducible refine (cG _ _ rr1).mono ?_; rintro e w2 ⟨rfl, k2⟩; have z2 := z1.trans (k2.mono z1.size)))
          go_roundg g'
          case measure => omega
          case rel => exact ⟨k + 1, by omega, by go_num, z2⟩
      · go_wp2_with fail
        go_ret
        exact ⟨rfl, y.trans (hbr.mono y.size)⟩
end Go.Proofs.YtmjfhhladicacaaDoor
