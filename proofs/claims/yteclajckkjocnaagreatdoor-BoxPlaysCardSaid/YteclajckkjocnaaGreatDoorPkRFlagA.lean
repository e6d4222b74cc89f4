/- The walk over the reference's Small: it returns the text in small letters. Condition: none. The walks over the reference's five and FlagName: a flag's name is as the plain function says. Condition: none. -/
import Derived.Test.YteclajckkjocnaaGreatDoorRows
import Derived.Test.YteclajckkjocnaaGreatDoorPkBytes
import Derived.Test.YteclajckkjocnaaGreatDoorPkPFlags
import Derived.Test.YteclajckkjocnaaGreatDoorPkShelf
namespace Go.Proofs.YteclajckkjocnaaGreatDoor
open Go.RowKit Go.Shelf
set_option linter.unusedSimpArgs false
theorem byte_text (W : World) (x : UInt8) : (convert 94 9 (.slice (some ⟨W.heap.size, 0, none⟩) 1 1)).run Tryz.prog (W.alloc (.cells #[.int .u8 (x.toNat : Int)] 5)) = .ok (.string ⟨#[x]⟩) (W.alloc (.cells #[.int .u8 (x.toNat : Int)] 5)) :=
  run_bytes_text (l := [x]) (Or.inr ⟨W.heap.size, 0, 1, rfl, by simp, by
    intro j u hj
    match j, hj with
    | 0, hj => simp [Lib.byteCells] at hj; subst hj; simp⟩) _ _ 5 Tryz.underlying94 Tryz.underlying5 Tryz.underlying9
set_option maxRecDepth 100000 in
set_option maxHeartbeats 2000000 in
theorem rsmall_any (S : List UInt8) (w : World) (hs : S.length ≤ 1000000000) :
    Calls Tryz.prog 71 #[.string ⟨S.toArray⟩] w fun e w' => e = .returned (.string ⟨(smallL S).toArray⟩) ∧ Below w.heap.size w w' := by
  have hts := text_size S
  go_enter Tryz.func71, Tryz.ntmps71
  go_wp2_with fail
  go_loopg [3, 8] S.length (fun g s3 s8 wr => ∃ (k : Nat) (U : List UInt8), k + g = S.length ∧ s8 = .int .i64 k ∧ s3 = .string ⟨U.toArray⟩ ∧ U.length = k ∧ Below w.heap.size w wr ∧ Hid (U = (S.take k).map smallC))
  case atStart => exact ⟨0, [], by omega, rfl, rfl, rfl, Below.refl _ _, by show _ = _; simp⟩
  case round =>
    obtain ⟨k, U, hk, rfl, rfl, hU, hbr, Hf⟩ := hrel
    by_cases hlt : k < S.length
    · obtain ⟨g', rfl⟩ : ∃ g', gk = g' + 1 := ⟨gk - 1, by omega⟩
      obtain ⟨c, hc⟩ : ∃ c, S[k] = c := ⟨_, rfl⟩
      have hget : ∀ h, (⟨S.toArray⟩ : ByteArray)[k]'h = c := fun h => hc
      have hcl := c.toNat_lt
      have hstep : (S.take (k + 1)).map smallC = U ++ [smallC c] := by
        rw [List.take_add_one, List.getElem?_eq_getElem hlt, hc, List.map_append, ← Hf.out]; rfl
      have hts2 := text_size U
      have hcat := text_cat U [smallC c]
      have ec := fun W => byte_text W (smallC c)
      by_cases hA : 65 ≤ c.toNat ∧ c.toNat ≤ 90
      · have hf : smallC c = c + 32 := by unfold smallC; rw [if_pos hA]
        have hfn : (smallC c).toNat = c.toNat + 32 := by rw [hf, UInt8.toNat_add]; show (c.toNat + 32) % 256 = _; omega
        have hfi : ((smallC c).toNat : Int) = (c.toNat : Int) + 32 := by omega
        generalize smallC c = d at hstep hcat ec hf hfn hfi
        simp only [hfi] at ec
        obtain ⟨C, hC⟩ : ∃ C : Int, (c.toNat : Int) = C := ⟨_, rfl⟩
        rw [hC] at ec
        have hget2 : ∀ h, (((⟨S.toArray⟩ : ByteArray)[k]'h).toNat : Int) = C := fun h => by rw [hget h]; exact hC
        have h1 : 65 ≤ C := by omega
        have h2 : C ≤ 90 := by omega
        have HX : Hid ((S.take (k + 1)).map smallC = U ++ [d]) := hstep
        have ecw := ec wr
        clear hc hfn hf hA hC hcl hfi hget hstep ec
        go_wp2_with fail
        go_roundg g'
        case measure => omega
        case rel => exact ⟨k + 1, U ++ [d], by omega, by go_num, rfl, by simp; omega, hbr.alloc hbr.size _, HX.out.symm⟩
      · have hf : smallC c = c := by unfold smallC; rw [if_neg hA]
        rw [hf] at hstep hcat ec
        obtain ⟨C, hC⟩ : ∃ C : Int, (c.toNat : Int) = C := ⟨_, rfl⟩
        rw [hC] at ec
        have hget2 : ∀ h, (((⟨S.toArray⟩ : ByteArray)[k]'h).toNat : Int) = C := fun h => by rw [hget h]; exact hC
        have h12 : C < 65 ∨ 90 < C := by omega
        have HX : Hid ((S.take (k + 1)).map smallC = U ++ [c]) := hstep
        have ecw := ec wr
        have hc0 : 0 ≤ C := by omega
        have hc1 : C < 256 := by omega
        clear hc hf hA hC hcl hget hstep ec
        rcases h12 with h12 | h12
        · go_wp2_with fail
          go_roundg g'
          case measure => omega
          case rel => exact ⟨k + 1, U ++ [c], by omega, by go_num, rfl, by simp; omega, hbr.alloc hbr.size _, HX.out.symm⟩
        · have h65 : 65 ≤ C := by omega
          go_wp2_with fail
          go_roundg g'
          case measure => omega
          case rel => exact ⟨k + 1, U ++ [c], by omega, by go_num, rfl, by simp; omega, hbr.alloc hbr.size _, HX.out.symm⟩
    · have hres : U = smallL S := by rw [Hf.out, List.take_of_length_le (by omega)]; rfl
      clear Hf
      subst hres
      go_wp2_with fail
      go_ret
      exact ⟨rfl, hbr⟩
end Go.Proofs.YteclajckkjocnaaGreatDoor
namespace Go.Proofs.YteclajckkjocnaaGreatDoor
open Go.RowKit Go.Shelf
set_option linter.unusedSimpArgs false
theorem letter_iff (c : UInt8) : letterC c = true ↔ ((97 ≤ c.toNat ∧ c.toNat ≤ 122) ∨ (65 ≤ c.toNat ∧ c.toNat ≤ 90) ∨ (48 ≤ c.toNat ∧ c.toNat ≤ 57) ∨ c.toNat = 95 ∨ c.toNat = 36) := by
  unfold letterC
  simp only [Bool.or_eq_true, Bool.and_eq_true, decide_eq_true_eq, beq_iff_eq, UInt8.le_iff_toNat_le, ← UInt8.toNat_inj]
  show ((((97 ≤ c.toNat ∧ c.toNat ≤ 122) ∨ (65 ≤ c.toNat ∧ c.toNat ≤ 90)) ∨ (48 ≤ c.toNat ∧ c.toNat ≤ 57)) ∨ c.toNat = 95) ∨ c.toNat = 36 ↔ _
  omega
theorem five_ix0 (W : World) : (Instr.index 111 (.agg #[.string ⟨#[92, 83, 101, 101, 110]⟩, .string ⟨#[92, 65, 110, 115, 119, 101, 114, 101, 100]⟩, .string ⟨#[92, 70, 108, 97, 103, 103, 101, 100]⟩, .string ⟨#[92, 68, 101, 108, 101, 116, 101, 100]⟩, .string ⟨#[92, 68, 114, 97, 102, 116]⟩]) (.int .i64 0)).run Tryz.prog W = .ok (.string ⟨#[92, 83, 101, 101, 110]⟩) W := by
  kernel_rfl
set_option maxRecDepth 100000 in
set_option maxHeartbeats 1000000 in
theorem five_any0 (w : World) : Calls Tryz.prog 57 #[.int .i64 0] w fun e w' => e = .returned (.string ⟨#[92, 83, 101, 101, 110]⟩) ∧ w = w' := by
  have ei := five_ix0
  go_enter Tryz.func57, Tryz.ntmps57
  go_wp2_with fail
  go_ret
  exact ⟨rfl, rfl⟩
theorem five_ix1 (W : World) : (Instr.index 111 (.agg #[.string ⟨#[92, 83, 101, 101, 110]⟩, .string ⟨#[92, 65, 110, 115, 119, 101, 114, 101, 100]⟩, .string ⟨#[92, 70, 108, 97, 103, 103, 101, 100]⟩, .string ⟨#[92, 68, 101, 108, 101, 116, 101, 100]⟩, .string ⟨#[92, 68, 114, 97, 102, 116]⟩]) (.int .i64 1)).run Tryz.prog W = .ok (.string ⟨#[92, 65, 110, 115, 119, 101, 114, 101, 100]⟩) W := by
  kernel_rfl
set_option maxRecDepth 100000 in
set_option maxHeartbeats 1000000 in
theorem five_any1 (w : World) : Calls Tryz.prog 57 #[.int .i64 1] w fun e w' => e = .returned (.string ⟨#[92, 65, 110, 115, 119, 101, 114, 101, 100]⟩) ∧ w = w' := by
  have ei := five_ix1
  go_enter Tryz.func57, Tryz.ntmps57
  go_wp2_with fail
  go_ret
  exact ⟨rfl, rfl⟩
theorem five_ix2 (W : World) : (Instr.index 111 (.agg #[.string ⟨#[92, 83, 101, 101, 110]⟩, .string ⟨#[92, 65, 110, 115, 119, 101, 114, 101, 100]⟩, .string ⟨#[92, 70, 108, 97, 103, 103, 101, 100]⟩, .string ⟨#[92, 68, 101, 108, 101, 116, 101, 100]⟩, .string ⟨#[92, 68, 114, 97, 102, 116]⟩]) (.int .i64 2)).run Tryz.prog W = .ok (.string ⟨#[92, 70, 108, 97, 103, 103, 101, 100]⟩) W := by
  kernel_rfl
set_option maxRecDepth 100000 in
set_option maxHeartbeats 1000000 in
theorem five_any2 (w : World) : Calls Tryz.prog 57 #[.int .i64 2] w fun e w' => e = .returned (.string ⟨#[92, 70, 108, 97, 103, 103, 101, 100]⟩) ∧ w = w' := by
  have ei := five_ix2
  go_enter Tryz.func57, Tryz.ntmps57
  go_wp2_with fail
  go_ret
  exact ⟨rfl, rfl⟩
theorem five_ix3 (W : World) : (Instr.index 111 (.agg #[.string ⟨#[92, 83, 101, 101, 110]⟩, .string ⟨#[92, 65, 110, 115, 119, 101, 114, 101, 100]⟩, .string ⟨#[92, 70, 108, 97, 103, 103, 101, 100]⟩, .string ⟨#[92, 68, 101, 108, 101, 116, 101, 100]⟩, .string ⟨#[92, 68, 114, 97, 102, 116]⟩]) (.int .i64 3)).run Tryz.prog W = .ok (.string ⟨#[92, 68, 101, 108, 101, 116, 101, 100]⟩) W := by
  kernel_rfl
set_option maxRecDepth 100000 in
set_option maxHeartbeats 1000000 in
theorem five_any3 (w : World) : Calls Tryz.prog 57 #[.int .i64 3] w fun e w' => e = .returned (.string ⟨#[92, 68, 101, 108, 101, 116, 101, 100]⟩) ∧ w = w' := by
  have ei := five_ix3
  go_enter Tryz.func57, Tryz.ntmps57
  go_wp2_with fail
  go_ret
  exact ⟨rfl, rfl⟩
theorem five_ix4 (W : World) : (Instr.index 111 (.agg #[.string ⟨#[92, 83, 101, 101, 110]⟩, .string ⟨#[92, 65, 110, 115, 119, 101, 114, 101, 100]⟩, .string ⟨#[92, 70, 108, 97, 103, 103, 101, 100]⟩, .string ⟨#[92, 68, 101, 108, 101, 116, 101, 100]⟩, .string ⟨#[92, 68, 114, 97, 102, 116]⟩]) (.int .i64 4)).run Tryz.prog W = .ok (.string ⟨#[92, 68, 114, 97, 102, 116]⟩) W := by
  kernel_rfl
set_option maxRecDepth 100000 in
set_option maxHeartbeats 1000000 in
theorem five_any4 (w : World) : Calls Tryz.prog 57 #[.int .i64 4] w fun e w' => e = .returned (.string ⟨#[92, 68, 114, 97, 102, 116]⟩) ∧ w = w' := by
  have ei := five_ix4
  go_enter Tryz.func57, Tryz.ntmps57
  go_wp2_with fail
  go_ret
  exact ⟨rfl, rfl⟩
theorem five_any (k : Nat) (t : List UInt8) (w : World) (ht : sysL[k]? = some t) :
    Calls Tryz.prog 57 #[.int .i64 (k : Int)] w fun e w' => e = .returned (.string ⟨t.toArray⟩) ∧ w = w' := by
  match k, ht with
  | 0, ht => cases ht; exact five_any0 w
  | 1, ht => cases ht; exact five_any1 w
  | 2, ht => cases ht; exact five_any2 w
  | 3, ht => cases ht; exact five_any3 w
  | 4, ht => cases ht; exact five_any4 w
  | k + 5, ht => simp [sysL] at ht
/-- what FlagName returns -/
def rnameV : Nat ⊕ List UInt8 → Value
  | .inl n => .tuple #[.string ⟨#[]⟩, .int .i64 (n : Int)]
  | .inr t => .tuple #[.string ⟨t.toArray⟩, .int .i64 0]
theorem eqs_text (a b : List UInt8) : (⟨a.toArray⟩ : ByteArray) = ⟨b.toArray⟩ ↔ a = b := by
  constructor
  · intro h
    have := congrArg (fun x => x.data.toList) h
    simpa using this
  · rintro rfl; rfl
set_option maxRecDepth 100000 in
set_option maxHeartbeats 8000000 in
theorem rname_any (s : List UInt8) (w : World) (hs : s.length ≤ 1000000) :
    Calls Tryz.prog 45 #[.string ⟨s.toArray⟩] w fun e w' => e = .returned (rnameV (nameF s)) ∧ Below w.heap.size w w' := by
  have hts := text_size s
  obtain ⟨R, hR⟩ : ∃ R, nameF s = R := ⟨_, rfl⟩
  rw [hR]
  unfold nameF at hR
  by_cases h92 : s.head? = some 92
  · rw [if_pos h92] at hR
    obtain ⟨r, rfl⟩ : ∃ r, s = 92 :: r := by
      cases s with
      | nil => cases h92
      | cons c r => cases h92; exact ⟨r, rfl⟩
    have hpos : 0 < (92 :: r).length := by rw [List.length_cons]; omega
    have hget : ∀ h, (⟨(92 :: r).toArray⟩ : ByteArray)[0]'h = 92 := fun h => rfl
    have HR : Hid ((match sysL.find? (fun t => smallL t == smallL (92 :: r)) with | some t => (.inr t : Nat ⊕ List UInt8) | none => .inl 3) = R) := hR
    have cS := fun W => rsmall_any (92 :: r) W (by omega)
    generalize 92 :: r = s at *
    have hposz : (0 : Int) < (s.length : Int) := by omega
    clear hR h92
    go_enter Tryz.func45, Tryz.ntmps45
    go_wp2_with fail
    go_loopg [15] 5 (fun g15 s15 wr => ∃ k : Nat, k + g15 = 5 ∧ s15 = .int .i64 (k : Int) ∧ Below w.heap.size w wr ∧ Hid (sysL.find? (fun t => smallL t == smallL s) = (sysL.drop k).find? (fun t => smallL t == smallL s)))
    case atStart => exact ⟨0, by omega, rfl, Below.refl _ _, rfl⟩
    case round =>
      obtain ⟨k, hk, rfl, hbr, HK⟩ := hrel
      by_cases hlt : k < 5
      · obtain ⟨g', rfl⟩ : ∃ g', gk = g' + 1 := ⟨gk - 1, by omega⟩
        obtain ⟨t, ht⟩ : ∃ t, sysL[k]? = some t := ⟨sysL[k]'(by simpa [sysL] using hlt), List.getElem?_eq_getElem _⟩
        have htl : t.length ≤ 100 := by
          have : sysL.all (fun t => decide (t.length ≤ 100)) = true := by decide
          simpa using List.all_eq_true.1 this t (List.mem_of_getElem? ht)
        have hdr : sysL.drop k = t :: sysL.drop (k + 1) := by
          obtain ⟨hk2, e⟩ := List.getElem?_eq_some_iff.1 ht
          rw [List.drop_eq_getElem_cons hk2, e]
        have cF := fun W => five_any k t W ht
        have cT := fun W => rsmall_any t W (by omega)
        have hK := HK.out
        rw [hdr, List.find?_cons] at hK
        have hq := eqs_text (smallL t) (smallL s)
        have tk := text_size t
        have hkz : (k : Int) < 5 := by omega
        cases he : smallL t == smallL s with
        | true =>
          rw [he] at hK
          have hX : R = .inr t := by rw [← HR.out, hK]
          have HX := Lib.hid hX
          have e := beq_iff_eq.1 he
          rw [e] at cT
          clear HK hK HR hX hdr ht he hq e
          go_wp2_with (first
            | (go_at_call 57; with_reducible refine (cF _).mono ?_; rintro e w1 ⟨rfl, hw⟩; subst hw)
            | (go_at_call 71; with_reducible refine (cT _).mono ?_; rintro e w2 ⟨rfl, h⟩; have y := hbr.trans (h.mono hbr.size))
            | (go_at_call 71; with_reducible refine (cS _).mono ?_; rintro e w3 ⟨rfl, h⟩; have y := y.trans (h.mono y.size)))
          go_ret2
          exact ⟨by rw [HX.out]; rfl, y⟩
        | false =>
          rw [he] at hK
          have HK2 : Hid (sysL.find? (fun t => smallL t == smallL s) = (sysL.drop (k + 1)).find? (fun t => smallL t == smallL s)) := hK
          have hne : ¬ (smallL t = smallL s) := fun e => by
            rw [e] at he
            simp at he
          have n1 : ¬ ((⟨(smallL t).toArray⟩ : ByteArray) = ⟨(smallL s).toArray⟩) := fun e => hne (hq.1 e)
          have n3 : ¬ (smallL t).toArray = (smallL s).toArray := fun e => hne (by simpa using e)
          have n4 : decide ((⟨(smallL t).toArray⟩ : ByteArray) = ⟨(smallL s).toArray⟩) = false := decide_eq_false n1
          have n5 : (smallL t == smallL s) = false := he
          have n6 : decide (smallL t = smallL s) = false := decide_eq_false hne
          clear HK hK hdr ht hq
          go_wp2_with (first
            | (go_at_call 57; with_reducible refine (cF _).mono ?_; rintro e w1 ⟨rfl, hw⟩; subst hw)
            | (go_at_call 71; with_reducible refine (cT _).mono ?_; rintro e w2 ⟨rfl, h⟩; have y := hbr.trans (h.mono hbr.size))
            | (go_at_call 71; with_reducible refine (cS _).mono ?_; rintro e w3 ⟨rfl, h⟩; have y := y.trans (h.mono y.size)))
          go_roundg g'
          case measure => omega
          case rel => exact ⟨k + 1, by omega, by go_num, y, HK2.out⟩
      · obtain rfl : k = 5 := by omega
        have hX : R = .inl 3 := by rw [← HR.out, HK.out]; rfl
        have HX := Lib.hid hX
        clear HK HR hX
        go_wp2_with fail
        go_ret2
        exact ⟨by rw [HX.out]; rfl, hbr⟩
  · rw [if_neg h92] at hR
    have hh : ¬ (0 < s.length ∧ ∃ h, (⟨s.toArray⟩ : ByteArray)[0]'h = 92) := by
      rintro ⟨h0, h1, h2⟩
      cases s with
      | nil => cases h0
      | cons c r =>
        have : c = 92 := h2
        subst this
        exact h92 rfl
    have HR : Hid ((if s = [] ∨ s.all letterC = false then (.inl 3 : Nat ⊕ List UInt8) else if 20 < s.length then .inl 4 else .inr s) = R) := hR
    clear hR
    by_cases hemp : s = []
    · subst hemp
      have hX : R = .inl 3 := by rw [← HR.out, if_pos (Or.inl rfl)]
      have HX := Lib.hid hX
      clear HR hX h92 hh
      go_enter Tryz.func45, Tryz.ntmps45
      go_wp2_with fail
      go_loopg [29] 0 (fun g29 s29 wr => 0 = g29 ∧ s29 = .int .i64 0 ∧ w = wr)
      case atStart => exact ⟨rfl, rfl, rfl⟩
      case round =>
        obtain ⟨hk, rfl, hw⟩ := hrel
        subst hw
        go_wp2_with fail
        go_ret2
        exact ⟨by rw [HX.out]; rfl, Below.refl _ _⟩
    · have hpos : 0 < s.length := List.length_pos_iff.2 hemp
      obtain ⟨c0, hc0⟩ : ∃ c0, s[0] = c0 := ⟨_, rfl⟩
      have hne : ¬ (c0 = 92) := fun e => hh ⟨hpos, by rw [text_size]; exact hpos, by rw [← e]; exact hc0⟩
      have hne2 : ¬ ((c0.toNat : Int) = 92) := fun e => hne (by apply UInt8.toNat_inj.1; show c0.toNat = 92; omega)
      have hget0 : ∀ h, (⟨s.toArray⟩ : ByteArray)[0]'h = c0 := fun h => hc0
      have hbe : ((c0.toNat : Int) == 92) = false := by simpa using hne2
      have hpz : (0 : Int) < (s.length : Int) := by omega
      clear h92 hh hc0
      go_enter Tryz.func45, Tryz.ntmps45
      go_wp2_with fail
      clear hget0 hne hne2 hbe
      go_loopg [29] s.length (fun g29 s29 wr => ∃ k : Nat, k + g29 = s.length ∧ s29 = .int .i64 (k : Int) ∧ w = wr ∧ Hid (s.all letterC = (s.drop k).all letterC))
      case atStart => exact ⟨0, by omega, rfl, rfl, rfl⟩
      case round =>
        obtain ⟨k, hk, rfl, hw, HK⟩ := hrel
        subst hw
        by_cases hlt : k < s.length
        · obtain ⟨g', rfl⟩ : ∃ g', gk = g' + 1 := ⟨gk - 1, by omega⟩
          obtain ⟨c, hc⟩ : ∃ c, s[k] = c := ⟨_, rfl⟩
          have hget : ∀ h, (⟨s.toArray⟩ : ByteArray)[k]'h = c := fun h => hc
          have hcl := c.toNat_lt
          have hK := HK.out
          rw [List.drop_eq_getElem_cons hlt, hc, List.all_cons] at hK
          have hli := letter_iff c
          obtain ⟨C, hC⟩ : ∃ C : Int, (c.toNat : Int) = C := ⟨_, rfl⟩
          have hget2 : ∀ h, (((⟨s.toArray⟩ : ByteArray)[k]'h).toNat : Int) = C := fun h => by rw [hget h]; exact hC
          have hCl : C < 256 := by omega
          have hC0 : 0 ≤ C := by omega
          cases hl : letterC c with
          | true =>
            rw [hl] at hK
            have HK2 : Hid (s.all letterC = (s.drop (k + 1)).all letterC) := hK
            have hcs := hli.1 hl
            have hcz : ((97 ≤ C ∧ C ≤ 122) ∨ ((65 ≤ C ∧ C ≤ 90) ∧ C < 97) ∨ ((48 ≤ C ∧ C ≤ 57) ∧ C < 65) ∨ C = 95 ∨ C = 36) := by omega
            clear HK hK hget hc hC hli hcs hl hcl
            rcases hcz with ⟨h1, h2⟩ | ⟨⟨h1, h2⟩, h3⟩ | ⟨⟨h1, h2⟩, h3⟩ | rfl | rfl
            · have a0 : decide (97 ≤ C) = true := decide_eq_true (by omega)
              have a1 : decide (C ≤ 122) = true := decide_eq_true (by omega)
              have a2 : decide (65 ≤ C) = true := decide_eq_true (by omega)
              have a3 : decide (C ≤ 90) = false := decide_eq_false (by omega)
              have a4 : decide (48 ≤ C) = true := decide_eq_true (by omega)
              have a5 : decide (C ≤ 57) = false := decide_eq_false (by omega)
              have a6 : (C == 95) = false := by rw [beq_eq_false_iff_ne]; omega
              have a7 : (C == 36) = false := by rw [beq_eq_false_iff_ne]; omega
              go_wp2_with fail
              go_roundg g'
              case measure => omega
              case rel => exact ⟨k + 1, by omega, by go_num, rfl, HK2.out⟩
            · have a0 : decide (97 ≤ C) = false := decide_eq_false (by omega)
              have a1 : decide (C ≤ 122) = true := decide_eq_true (by omega)
              have a2 : decide (65 ≤ C) = true := decide_eq_true (by omega)
              have a3 : decide (C ≤ 90) = true := decide_eq_true (by omega)
              have a4 : decide (48 ≤ C) = true := decide_eq_true (by omega)
              have a5 : decide (C ≤ 57) = false := decide_eq_false (by omega)
              have a6 : (C == 95) = false := by rw [beq_eq_false_iff_ne]; omega
              have a7 : (C == 36) = false := by rw [beq_eq_false_iff_ne]; omega
              go_wp2_with fail
              go_roundg g'
              case measure => omega
              case rel => exact ⟨k + 1, by omega, by go_num, rfl, HK2.out⟩
            · have a0 : decide (97 ≤ C) = false := decide_eq_false (by omega)
              have a1 : decide (C ≤ 122) = true := decide_eq_true (by omega)
              have a2 : decide (65 ≤ C) = false := decide_eq_false (by omega)
              have a3 : decide (C ≤ 90) = true := decide_eq_true (by omega)
              have a4 : decide (48 ≤ C) = true := decide_eq_true (by omega)
              have a5 : decide (C ≤ 57) = true := decide_eq_true (by omega)
              have a6 : (C == 95) = false := by rw [beq_eq_false_iff_ne]; omega
              have a7 : (C == 36) = false := by rw [beq_eq_false_iff_ne]; omega
              go_wp2_with fail
              go_roundg g'
              case measure => omega
              case rel => exact ⟨k + 1, by omega, by go_num, rfl, HK2.out⟩
            · go_wp2_with fail
              go_roundg g'
              case measure => omega
              case rel => exact ⟨k + 1, by omega, by go_num, rfl, HK2.out⟩
            · go_wp2_with fail
              go_roundg g'
              case measure => omega
              case rel => exact ⟨k + 1, by omega, by go_num, rfl, HK2.out⟩
          | false =>
            rw [hl] at hK
            have hX : R = .inl 3 := by rw [← HR.out, if_pos (Or.inr (by rw [hK]; rfl))]
            have HX := Lib.hid hX
            have hcs : ¬ _ := fun h => by have := hli.2 h; rw [hl] at this; cases this
            have hcz : 122 < C ∨ C = 96 ∨ ((90 < C ∧ C < 97) ∧ C ≠ 95) ∨ (57 < C ∧ C < 65) ∨ ((C < 48) ∧ C ≠ 36) := by omega
            clear HK hK HR hX hget hc hC hli hcs hl hcl
            rcases hcz with h1 | rfl | ⟨⟨h1, h2⟩, h3⟩ | ⟨h1, h2⟩ | ⟨h1, h3⟩
            · have a0 : decide (97 ≤ C) = true := decide_eq_true (by omega)
              have a1 : decide (C ≤ 122) = false := decide_eq_false (by omega)
              have a2 : decide (65 ≤ C) = true := decide_eq_true (by omega)
              have a3 : decide (C ≤ 90) = false := decide_eq_false (by omega)
              have a4 : decide (48 ≤ C) = true := decide_eq_true (by omega)
              have a5 : decide (C ≤ 57) = false := decide_eq_false (by omega)
              have a6 : (C == 95) = false := by rw [beq_eq_false_iff_ne]; omega
              have a7 : (C == 36) = false := by rw [beq_eq_false_iff_ne]; omega
              go_wp2_with fail
              go_ret2
              exact ⟨by rw [HX.out]; rfl, Below.refl _ _⟩
            · go_wp2_with fail
              go_ret2
              exact ⟨by rw [HX.out]; rfl, Below.refl _ _⟩
            · have a0 : decide (97 ≤ C) = false := decide_eq_false (by omega)
              have a1 : decide (C ≤ 122) = true := decide_eq_true (by omega)
              have a2 : decide (65 ≤ C) = true := decide_eq_true (by omega)
              have a3 : decide (C ≤ 90) = false := decide_eq_false (by omega)
              have a4 : decide (48 ≤ C) = true := decide_eq_true (by omega)
              have a5 : decide (C ≤ 57) = false := decide_eq_false (by omega)
              have a6 : (C == 95) = false := by rw [beq_eq_false_iff_ne]; omega
              have a7 : (C == 36) = false := by rw [beq_eq_false_iff_ne]; omega
              go_wp2_with fail
              go_ret2
              exact ⟨by rw [HX.out]; rfl, Below.refl _ _⟩
            · have a0 : decide (97 ≤ C) = false := decide_eq_false (by omega)
              have a1 : decide (C ≤ 122) = true := decide_eq_true (by omega)
              have a2 : decide (65 ≤ C) = false := decide_eq_false (by omega)
              have a3 : decide (C ≤ 90) = true := decide_eq_true (by omega)
              have a4 : decide (48 ≤ C) = true := decide_eq_true (by omega)
              have a5 : decide (C ≤ 57) = false := decide_eq_false (by omega)
              have a6 : (C == 95) = false := by rw [beq_eq_false_iff_ne]; omega
              have a7 : (C == 36) = false := by rw [beq_eq_false_iff_ne]; omega
              go_wp2_with fail
              go_ret2
              exact ⟨by rw [HX.out]; rfl, Below.refl _ _⟩
            · have a0 : decide (97 ≤ C) = false := decide_eq_false (by omega)
              have a1 : decide (C ≤ 122) = true := decide_eq_true (by omega)
              have a2 : decide (65 ≤ C) = false := decide_eq_false (by omega)
              have a3 : decide (C ≤ 90) = true := decide_eq_true (by omega)
              have a4 : decide (48 ≤ C) = false := decide_eq_false (by omega)
              have a5 : decide (C ≤ 57) = true := decide_eq_true (by omega)
              have a6 : (C == 95) = false := by rw [beq_eq_false_iff_ne]; omega
              have a7 : (C == 36) = false := by rw [beq_eq_false_iff_ne]; omega
              go_wp2_with fail
              go_ret2
              exact ⟨by rw [HX.out]; rfl, Below.refl _ _⟩
        · have ha : s.all letterC = true := by rw [HK.out, List.drop_eq_nil_of_le (by omega)]; rfl
          have he1 : (⟨s.toArray⟩ : ByteArray).toList.isEmpty = false := by rw [w_empty]; simpa using hemp
          have he2 : s.isEmpty = false := by simpa using hemp
          have hR := HR.out
          rw [if_neg (by rintro (h | h); exact hemp h; rw [ha] at h; cases h)] at hR
          by_cases h20 : 20 < s.length
          · rw [if_pos h20] at hR
            have h20z : (20 : Int) < (s.length : Int) := by omega
            have HX := Lib.hid hR
            clear HR HK hR ha
            go_wp2_with fail
            go_ret2
            exact ⟨by rw [← HX.out]; rfl, Below.refl _ _⟩
          · rw [if_neg h20] at hR
            have h20z : ¬ ((20 : Int) < (s.length : Int)) := by omega
            have HX := Lib.hid hR
            clear HR HK hR ha
            go_wp2_with fail
            go_ret2
            exact ⟨by rw [← HX.out]; rfl, Below.refl _ _⟩
end Go.Proofs.YteclajckkjocnaaGreatDoor
