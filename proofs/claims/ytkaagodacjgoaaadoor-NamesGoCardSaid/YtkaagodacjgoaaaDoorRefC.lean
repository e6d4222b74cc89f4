/- The walk over the reference's Encode. Conditions: utf8's two tables lie as their text lays them. -/
import Derived.Test.YtkaagodacjgoaaaDoorRows
import Derived.Test.YtkaagodacjgoaaaDoorRefB
import Derived.Deep.RegionHeld3
namespace Go.Proofs.YtkaagodacjgoaaaDoor
open Go.RowKit Go.Shelf

theorem below_cell {w w' : World} {p : Addr} {v : Value} (hb : Below w.heap.size w w') (h : w.cell? p = some v) : w'.cell? p = some v := by
  have hlt : p.block < w.heap.size := by
    rcases Nat.lt_or_ge p.block w.heap.size with h' | h'
    · exact h'
    · simp [World.cell?, Array.getElem?_eq_none h'] at h
  exact (hb.cell hlt).trans h

theorem below_frozen {w w' : World} {p : Addr} {v : Value} (hb : Below w.heap.size w w') (h : w.cell? p = some v) (hf : w.frozen? p = false) : w'.frozen? p = false := by
  have hlt : p.block < w.heap.size := by
    rcases Nat.lt_or_ge p.block w.heap.size with h' | h'
    · exact h'
    · simp [World.cell?, Array.getElem?_eq_none h'] at h
  have he : w'.heap[p.block]? = w.heap[p.block]? := by
    obtain ⟨o, ho⟩ : ∃ o, w.heap[p.block]? = some o := ⟨w.heap[p.block], Array.getElem?_eq_getElem hlt⟩
    rw [ho, below_same hb ho]
  unfold World.frozen? at hf ⊢
  rw [he]; exact hf
theorem enc_plain (r : Nat) (h : r ≤ 126) : Utf8.encode (r : Int) = ⟨#[UInt8.ofNat r]⟩ := by
  have hv : Utf8.valid (r : Int) = true := by simp [Utf8.valid]; omega
  have h1 : (r : Int).toNat = r := Int.toNat_natCast r
  unfold Utf8.encode
  simp only [hv, if_true, h1]
  rw [if_pos (by omega)]
theorem encF_units (r : Nat) (rs : List Nat) (out : List UInt8) (wait : List Nat) (h : ¬ (32 ≤ r ∧ r ≤ 126)) : encF (r :: rs) out wait = encF rs out (wait ++ [r]) := by
  rw [encF_step, if_neg (by omega), if_neg (by omega)]
theorem units_bits_snoc (rs : List Nat) (r : Nat) : bstr (allBits 16 ((rs ++ [r]).flatMap unitsOf)) = bstr (allBits 16 (rs.flatMap unitsOf)) ++ bstr (allBits 16 (unitsOf r)) := by
  rw [List.flatMap_append, allBits_append, bstr_app]
  simp

set_option maxRecDepth 100000 in
set_option maxHeartbeats 4000000 in
theorem encodeR_no (s : ByteArray) (w : World) (hs : s.size ≤ 1000000) (hT : Tabs w) (hR : rightL s.data.toList = false) :
    Calls Tryd.prog 9 #[.string s] w fun e w' => e = .returned (.tuple #[.string ⟨#[]⟩, .int .i64 1]) ∧ Below w.heap.size w w' := by
  have cR := named_any s w hs hT
  rw [hR] at cR
  clear hR
  go_enter Tryd.func9, Tryd.ntmps9
  go_wp2_with (go_at_call 11; refine cR.mono ?_; rintro e w1 ⟨rfl, hb1⟩)
  go_ret2
  exact ⟨rfl, hb1⟩

set_option maxRecDepth 100000 in
set_option maxHeartbeats 4000000 in
theorem encodeR_yes (s : ByteArray) (w : World) (hT : Tabs w) (hR : rightL s.data.toList = true) :
    Calls Tryd.prog 9 #[.string s] w fun e w' => e = .returned (.tuple #[.string ⟨(encL s.data.toList).toArray⟩, .int .i64 0]) ∧ Below w.heap.size w w' := by
  have hs := rightL_size s hR
  have cR := named_any s w (by omega) hT
  rw [hR] at cR
  clear hR
  go_enter Tryd.func9, Tryd.ntmps9
  go_wp2_with (go_at_call 11; refine cR.mono ?_; rintro e w1 ⟨rfl, hb1⟩)
  have hsz1 := hb1.size
  go_loopg [] s.size (fun g wr => ∃ (pos : Nat) (out : List UInt8) (rs : List Nat), wr.heap[w1.heap.size + 1 + 1]? = some (.stringIter s pos) ∧ wr.heap[w1.heap.size + 1]? = some (.cells #[.string ⟨(bstr (allBits 16 (rs.flatMap unitsOf))).toArray⟩] 9 (0, 0)) ∧ wr.heap[w1.heap.size]? = some (.cells #[.string ⟨out.toArray⟩] 9 (0, 0)) ∧
    Below w.heap.size w wr ∧ s.size ≤ pos + g ∧ (∀ r ∈ rs, r ≤ 1114111) ∧ rs.length ≤ pos ∧ out.length + 9 * rs.length ≤ 9 * pos ∧ pos ≤ 64 ∧
    Hid (encF (runesL (s.data.toList.drop pos)) out rs = encL s.data.toList))
  case atStart =>
    refine ⟨0, [], [], ?_, ?_, ?_, ?_, by omega, by simp, by simp, by simp, by omega, ?_⟩
    · have := World.iter_heap ((w1.alloc (.cells #[.string ⟨#[]⟩] 9)).alloc (.cells #[.string ⟨#[]⟩] 9)) s 0
      simpa using this
    · refine alloc_same ?_
      have := World.heap_alloc_new (w1.alloc (.cells #[.string ⟨#[]⟩] 9)) (.cells #[.string ⟨#[]⟩] 9)
      rw [show (w1.alloc (.cells #[.string ⟨#[]⟩] 9)).heap.size = w1.heap.size + 1 by simp] at this
      exact this
    · exact alloc_same (alloc_same (World.heap_alloc_new w1 _))
    · exact ((hb1.alloc hsz1 _).alloc (by simp; omega) _).alloc (by simp; omega) _
    · show encF (runesL (s.data.toList.drop 0)) [] [] = _
      rw [List.drop_zero]; rfl
  case round =>
    obtain ⟨pos, out, rs, hit, hW, hO, hbw, hfu, hrs, hrl, hol, hp3, Hf⟩ := hrel
    have hsz : w1.heap.size + 1 + 1 < wr.heap.size := (Array.getElem?_eq_some_iff.1 hit).1
    by_cases hp : pos < s.size
    · obtain ⟨g', rfl⟩ : ∃ g', gk = g' + 1 := ⟨gk - 1, by omega⟩
      have hnx : ∀ ty, (Instr.next (.pointer (some ⟨w1.heap.size + 1 + 1, 0, none⟩)) true ty).run Tryd.prog wr = _ := fun ty => Lib.run_next_any_at wr (w1.heap.size + 1 + 1) s pos ty hit hp
      have hwd := Lib.width_pos s pos
      have hw4 := width4 s pos
      have hRl := Lib.rune_le s pos
      have hfr := runesL_at s pos hp
      have hf0 := Hf.out
      rw [hfr] at hf0
      obtain ⟨R, hR⟩ : ∃ R, (Utf8.decode s pos).1 = R := ⟨_, rfl⟩
      obtain ⟨K, hK⟩ : ∃ K, (Utf8.decode s pos).2 = K := ⟨_, rfl⟩
      rw [hR, hK] at hnx hf0
      rw [hK] at hwd hw4
      rw [hR] at hRl
      obtain ⟨Z, hZ⟩ : ∃ Z : Int, (R : Int) = Z := ⟨_, rfl⟩
      have hZ0 : 0 ≤ Z := by omega
      have hZ1 : Z < 2147483648 := by omega
      rw [hZ] at hnx
      clear hR hK hfr Hf
      have hit2 := Lib.iterAt_heap wr (w1.heap.size + 1 + 1) s pos (pos + K) hit
      have hbw2 := Lib.below_iterAt hbw (k := w1.heap.size + 1 + 1) (by omega) s (pos + K)
      have hoth : ∀ (k : Nat) (o : Obj), wr.heap[k]? = some o → o ≠ .stringIter s pos → (wr.iterAt (w1.heap.size + 1 + 1) s (pos + K)).heap[k]? = some o := fun k o hk ho => (Lib.iterAt_other wr _ k s (pos + K) (ne_of_obj hk hit ho)).trans hk
      have hW2 := hoth _ _ hW (by intro h; cases h)
      have hO2 := hoth _ _ hO (by intro h; cases h)
      have hszW : wr.heap.size = (wr.iterAt (w1.heap.size + 1 + 1) s (pos + K)).heap.size := (Lib.iterAt_size _ _ _ _).symm
      obtain ⟨X, hX⟩ : ∃ X, wr.iterAt (w1.heap.size + 1 + 1) s (pos + K) = X := ⟨_, rfl⟩
      rw [hX] at hnx hit2 hbw2 hW2 hO2 hszW
      clear hX hoth hit hW hO hbw
      have hXs : w.heap.size ≤ X.heap.size := by omega
      have hflen := flushL_len out rs hrs
      have hcat1 := text_cat1
      have hcat2 := text_cat2
      by_cases h38 : R = 38
      · subst h38
        have HF : Hid (encF (runesL (s.data.toList.drop (pos + K))) (flushL out rs ++ [38, 45]) [] = encL s.data.toList) := by
          rw [encF_step, if_neg (by omega), if_pos rfl] at hf0; exact hf0
        obtain rfl : Z = 38 := by omega
        have cF := flushR_any (w1.heap.size + 1) w1.heap.size w.heap.size rs out X (by omega) hsz1 (by omega) hW2 hO2 hrs (by omega) (by omega)
        generalize flushL out rs = FL at cF HF hflen
        have hcat : (⟨FL.toArray⟩ : ByteArray) ++ ⟨#[38, 45]⟩ = ⟨(FL ++ [38, 45]).toArray⟩ := text_cat2 _ _ _
        have hFl : FL.length + 2 ≤ 1000000 := by omega
        clear hf0 hRl hZ
        go_wp2_with (go_at_call 25; refine cF.mono ?_; rintro e X1 ⟨rfl, hW3, hO3, hb3, hk3⟩; have cO3 : X1.cell? ⟨w1.heap.size, 0, none⟩ = some (.string ⟨FL.toArray⟩) := by { rw [Lib.cell_of_heap hO3]; rfl }; have fO3 : X1.frozen? ⟨w1.heap.size, 0, none⟩ = false := Lib.frozen_of_heap hO3 0)
        have hit3 := hk3 _ _ hit2 (by omega) (by omega)
        go_roundg g'
        case measure => omega
        case rel =>
          exact ⟨pos + K, FL ++ [38, 45], [], setCell_same hit3 (by simp; omega), setCell_same hW3 (by simp), setCell_one hO3, (hbw2.trans hb3).setCell hsz1 _, by omega, by simp, by simp, by simp; omega, by omega, HF.out⟩
      · have h38z : (Z == 38) = false := by rw [beq_eq_false_iff_ne]; omega
        by_cases hpl : 32 ≤ R ∧ R ≤ 126
        · have HF : Hid (encF (runesL (s.data.toList.drop (pos + K))) (flushL out rs ++ [UInt8.ofNat R]) [] = encL s.data.toList) := by
            rw [encF_step, if_pos (by omega)] at hf0; exact hf0
          have cF := flushR_any (w1.heap.size + 1) w1.heap.size w.heap.size rs out X (by omega) hsz1 (by omega) hW2 hO2 hrs (by omega) (by omega)
          have ci := in_any Z 32 126 X
          have hz1 : decide ((32 : Int) ≤ Z) = true := by simp; omega
          have hz2 : decide (Z ≤ (126 : Int)) = true := by simp; omega
          rw [hz1, hz2] at ci
          simp only [Bool.and_self] at ci
          have hcv : ∀ W : World, (convert 21 9 (.int .i32 Z)).run Tryd.prog W = .ok (.string ⟨#[UInt8.ofNat R]⟩) W := fun W => by
            rw [run_convert_int_string W 21 9 .i32 Z (by kernel_rfl) Tryd.underlying9, ← hZ, enc_plain R hpl.2]
          generalize flushL out rs = FL at cF HF hflen
          have hcat : (⟨FL.toArray⟩ : ByteArray) ++ ⟨#[UInt8.ofNat R]⟩ = ⟨(FL ++ [UInt8.ofNat R]).toArray⟩ := text_cat1 _ _
          have hFl : FL.length + 2 ≤ 1000000 := by omega
          clear hf0 hRl hZ hz1 hz2 hpl h38
          go_wp2_with (first | (go_at_call 26; refine ci.mono ?_; rintro e w2 ⟨rfl, rfl⟩) | (go_at_call 25; refine cF.mono ?_; rintro e X1 ⟨rfl, hW3, hO3, hb3, hk3⟩; have cO3 : X1.cell? ⟨w1.heap.size, 0, none⟩ = some (.string ⟨FL.toArray⟩) := by { rw [Lib.cell_of_heap hO3]; rfl }; have fO3 : X1.frozen? ⟨w1.heap.size, 0, none⟩ = false := Lib.frozen_of_heap hO3 0))
          have hit3 := hk3 _ _ hit2 (by omega) (by omega)
          go_roundg g'
          case measure => omega
          case rel =>
            exact ⟨pos + K, FL ++ [UInt8.ofNat R], [], setCell_same hit3 (by simp; omega), setCell_same hW3 (by simp), setCell_one hO3, (hbw2.trans hb3).setCell hsz1 _, by omega, by simp, by simp, by simp; omega, by omega, HF.out⟩
        · have HF : Hid (encF (runesL (s.data.toList.drop (pos + K))) out (rs ++ [R]) = encL s.data.toList) := by
            rw [encF_units _ _ _ _ hpl] at hf0; exact hf0
          have ci := in_any Z 32 126 X
          have hin : (decide ((32 : Int) ≤ Z) && decide (Z ≤ 126)) = false := by simp; omega
          rw [hin] at ci
          have HU := Lib.hid (units_bits_snoc rs R)
          have hWl : (bstr (allBits 16 (rs.flatMap unitsOf))).length ≤ 32000 := by
            rw [bstr_len, allBits_length]
            have := units_len rs
            omega
          generalize bstr (allBits 16 (rs.flatMap unitsOf)) = WT at hW2 HU hWl
          have cW2 : X.cell? ⟨w1.heap.size + 1, 0, none⟩ = some (.string ⟨WT.toArray⟩) := by rw [Lib.cell_of_heap hW2]; rfl
          have fW2 : X.frozen? ⟨w1.heap.size + 1, 0, none⟩ = false := Lib.frozen_of_heap hW2 0
          have hrs2 : Hid (∀ r ∈ rs ++ [R], r ≤ 1114111) := by
            intro r hr
            rcases List.mem_append.1 hr with hr | hr
            · exact hrs r hr
            · rw [List.mem_singleton] at hr; rw [hr]; exact hRl
          by_cases hsm : R < 65536
          · have hzs : ¬ (65535 : Int) < Z := by omega
            have hbit : ∀ W : World, Calls Tryd.prog 27 #[.int .i64 Z, .int .i64 16] W fun e w' => e = .returned (.string ⟨(bstr (bitsOf 16 R)).toArray⟩) ∧ Below W.heap.size W w' := fun W => by
              have := bits_any R 16 W hsm (by decide)
              rw [← hZ]; exact this
            rw [unitsOf_small R hsm, show allBits 16 [R] = bitsOf 16 R by simp [allBits]] at HU
            have hBl : (bstr (bitsOf 16 R)).length = 16 := by rw [bstr_len, bitsOf_length]
            generalize bstr (bitsOf 16 R) = BT at HU hbit hBl
            have hcat : (⟨WT.toArray⟩ : ByteArray) ++ ⟨BT.toArray⟩ = ⟨(WT ++ BT).toArray⟩ := text_cat _ _
            have hadd : ∀ W : World, (Op.stringOp .add ⟨WT.toArray⟩ ⟨BT.toArray⟩).run Tryd.prog W = .ok (.string ⟨(WT ++ BT).toArray⟩) W := fun W => by
              rw [run_string_add_sum W _ _ (by rw [text_size, text_size]; omega), hcat]
            clear hf0 hRl hZ hpl h38 hin hsm hrs hcat1 hcat2 hflen
            go_wp2_with (first | (go_at_call 26; refine ci.mono ?_; rintro e w2 ⟨rfl, rfl⟩))
            have cWd : X.drew.cell? ⟨w1.heap.size + 1, 0, none⟩ = some (.string ⟨WT.toArray⟩) := cW2
            have fWd : X.drew.frozen? ⟨w1.heap.size + 1, 0, none⟩ = false := fW2
            go_region_with (first | (go_at_call 27; refine (hbit _).mono ?_; rintro e X1 ⟨rfl, hbb⟩; have cB := below_cell hbb cWd; have fB := below_frozen hbb cWd fWd))
            all_goals
              go_wp2_with fail
              go_roundg g'
              case measure => omega
              case rel =>
                have hitd := below_same hbb (show X.drew.heap[w1.heap.size + 1 + 1]? = _ from hit2)
                have hOd := below_same hbb (show X.drew.heap[w1.heap.size]? = _ from hO2)
                have hWd := below_same hbb (show X.drew.heap[w1.heap.size + 1]? = _ from hW2)
                exact ⟨pos + K, out, rs ++ [R], setCell_same hitd (by simp), by rw [HU.out]; exact setCell_one hWd, setCell_same hOd (by simp), ((hbw2.drew).trans (hbb.mono hXs)).setCell (by show w.heap.size ≤ w1.heap.size + 1; omega) _, by omega, hrs2.out, by simp; omega, by simp; omega, by omega, HF.out⟩
          · have hzs : (65535 : Int) < Z := by omega
            have hZ2 : Z ≤ 1114111 := by omega
            have hbit1 : ∀ W : World, Calls Tryd.prog 27 #[.int .i64 (55296 + (Z - 65536) / 1024), .int .i64 16] W fun e w' => e = .returned (.string ⟨(bstr (bitsOf 16 (55296 + (R - 65536) / 1024))).toArray⟩) ∧ Below W.heap.size W w' := fun W => by
              have := bits_any (55296 + (R - 65536) / 1024) 16 W (by omega) (by decide)
              rw [show ((55296 + (R - 65536) / 1024 : Nat) : Int) = 55296 + (Z - 65536) / 1024 by omega] at this
              exact this
            have hbit2 : ∀ W : World, Calls Tryd.prog 27 #[.int .i64 (56320 + (Z - 65536) % 1024), .int .i64 16] W fun e w' => e = .returned (.string ⟨(bstr (bitsOf 16 (56320 + (R - 65536) % 1024))).toArray⟩) ∧ Below W.heap.size W w' := fun W => by
              have := bits_any (56320 + (R - 65536) % 1024) 16 W (by omega) (by decide)
              rw [show ((56320 + (R - 65536) % 1024 : Nat) : Int) = 56320 + (Z - 65536) % 1024 by omega] at this
              exact this
            rw [unitsOf_great R hsm, show ∀ a b : Nat, allBits 16 [a, b] = bitsOf 16 a ++ bitsOf 16 b from fun a b => by simp [allBits], bstr_app] at HU
            have hBl : (bstr (bitsOf 16 (55296 + (R - 65536) / 1024))).length = 16 := by rw [bstr_len, bitsOf_length]
            have hCl : (bstr (bitsOf 16 (56320 + (R - 65536) % 1024))).length = 16 := by rw [bstr_len, bitsOf_length]
            generalize bstr (bitsOf 16 (55296 + (R - 65536) / 1024)) = BT at HU hbit1 hBl
            generalize bstr (bitsOf 16 (56320 + (R - 65536) % 1024)) = CT at HU hbit2 hCl
            have hcat0 : (⟨BT.toArray⟩ : ByteArray) ++ ⟨CT.toArray⟩ = ⟨(BT ++ CT).toArray⟩ := text_cat _ _
            have hcat : (⟨WT.toArray⟩ : ByteArray) ++ ⟨(BT ++ CT).toArray⟩ = ⟨(WT ++ (BT ++ CT)).toArray⟩ := text_cat _ _
            have hadd0 : ∀ W : World, (Op.stringOp .add ⟨BT.toArray⟩ ⟨CT.toArray⟩).run Tryd.prog W = .ok (.string ⟨(BT ++ CT).toArray⟩) W := fun W => by
              rw [run_string_add_sum W _ _ (by rw [text_size, text_size]; omega), hcat0]
            have hadd : ∀ W : World, (Op.stringOp .add ⟨WT.toArray⟩ ⟨(BT ++ CT).toArray⟩).run Tryd.prog W = .ok (.string ⟨(WT ++ (BT ++ CT)).toArray⟩) W := fun W => by
              rw [run_string_add_sum W _ _ (by rw [text_size, text_size, List.length_append]; omega), hcat]
            obtain ⟨D, hD⟩ : ∃ D : Int, D = Z - 65536 := ⟨_, rfl⟩
            have hD0 : 0 ≤ D := by omega
            have hD1 : D ≤ 1048575 := by omega
            rw [← hD] at hbit1 hbit2
            clear hf0 hRl hZ hpl h38 hin hsm hrs hcat1 hcat2 hflen
            go_wp2_with (first | (go_at_call 26; refine ci.mono ?_; rintro e w2 ⟨rfl, rfl⟩))
            rw [← hD]
            clear hD
            obtain ⟨Dq, hDq⟩ : ∃ q : Int, q = D / 1024 := ⟨_, rfl⟩
            obtain ⟨Dr, hDr⟩ : ∃ q : Int, q = D % 1024 := ⟨_, rfl⟩
            obtain ⟨A1, hA1⟩ : ∃ q : Int, q = 55296 + D / 1024 := ⟨_, rfl⟩
            obtain ⟨A2, hA2⟩ : ∃ q : Int, q = 56320 + D % 1024 := ⟨_, rfl⟩
            have e1 : D.tdiv 1024 = Dq := by rw [Int.tdiv_eq_ediv_of_nonneg hD0]; exact hDq.symm
            have e2 : IntKind.i64.wrap Dq = Dq := IntWalk.i64_in _ (by omega)
            have e3 : IntKind.i64.wrap (55296 + Dq) = A1 := by rw [IntWalk.i64_in _ (by omega)]; omega
            have e4 : D.tmod 1024 = Dr := by rw [Int.tmod_eq_emod_of_nonneg hD0]; exact hDr.symm
            have e5 : IntKind.i64.wrap Dr = Dr := IntWalk.i64_in _ (by omega)
            have e6 : IntKind.i64.wrap (56320 + Dr) = A2 := by rw [IntWalk.i64_in _ (by omega)]; omega
            rw [← hA1] at hbit1
            rw [← hA2] at hbit2
            clear hDq hDr hA1 hA2 hD0 hD1
            have cWd : X.drew.cell? ⟨w1.heap.size + 1, 0, none⟩ = some (.string ⟨WT.toArray⟩) := cW2
            have fWd : X.drew.frozen? ⟨w1.heap.size + 1, 0, none⟩ = false := fW2
            go_region_with (first | (go_at_call 27; with_reducible refine (hbit1 _).mono ?_; rintro e X1 ⟨rfl, hbb⟩; have cB := below_cell hbb cWd; have fB := below_frozen hbb cWd fWd) | (go_at_call 27; with_reducible refine (hbit2 _).mono ?_; rintro e X2 ⟨rfl, hbb2⟩; have cC := below_cell hbb2 cB; have fC := below_frozen hbb2 cB fB))
            all_goals clear e1 e2 e3 e4 e5 e6
            all_goals
              go_wp2_with fail
              go_roundg g'
              case measure => omega
              case rel =>
                have hitd := below_same hbb2 (below_same hbb (show X.drew.heap[w1.heap.size + 1 + 1]? = _ from hit2))
                have hOd := below_same hbb2 (below_same hbb (show X.drew.heap[w1.heap.size]? = _ from hO2))
                have hWd := below_same hbb2 (below_same hbb (show X.drew.heap[w1.heap.size + 1]? = _ from hW2))
                exact ⟨pos + K, out, rs ++ [R], setCell_same hitd (by simp), by rw [HU.out]; exact setCell_one hWd, setCell_same hOd (by simp), (((hbw2.drew).trans (hbb.mono hXs)).trans (hbb2.mono (Nat.le_trans hXs hbb.size))).setCell (by show w.heap.size ≤ w1.heap.size + 1; omega) _, by omega, hrs2.out, by simp; omega, by simp; omega, by omega, HF.out⟩
    · have hnx : ∀ ty, (Instr.next (.pointer (some ⟨w1.heap.size + 1 + 1, 0, none⟩)) true ty).run Tryd.prog wr = _ := fun ty => Lib.run_next_end_at wr (w1.heap.size + 1 + 1) s pos ty hit hp
      have hf0 := Hf.out
      rw [runesL_end s pos hp] at hf0
      have HF : Hid (flushL out rs = encL s.data.toList) := hf0
      have cF := flushR_any (w1.heap.size + 1) w1.heap.size w.heap.size rs out wr (by omega) hsz1 (by omega) hW hO hrs (by omega) (by omega)
      rw [HF.out] at cF
      clear hf0 Hf
      go_wp2_with (go_at_call 25; refine cF.mono ?_; rintro e X1 ⟨rfl, hW3, hO3, hb3, hk3⟩; have cO3 : X1.cell? ⟨w1.heap.size, 0, none⟩ = some (.string ⟨(encL s.data.toList).toArray⟩) := by { rw [Lib.cell_of_heap hO3]; rfl })
      go_ret2
      exact ⟨rfl, hbw.trans hb3⟩
end Go.Proofs.YtkaagodacjgoaaaDoor
