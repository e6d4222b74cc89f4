/- The walk over the reference's Small: it returns the text in small letters. Condition: none. The walks over the reference's small functions for heads: in, blank, bare, Split, Small, Great. Condition: bytealg.MaxLen lies (Split). The walk over the reference's Fields: it returns what its plain function says. Conditions: bytealg.MaxLen and letterboxref.Fine lie. -/
import Derived.Test.YtcahhnjponeeeaaGreatDoorRows
import Derived.Deep.AppendLies
import Derived.Deep.RegionLaw
import Derived.Deep.QuietTactic
import Derived.BigQuiet
import Derived.Test.YtcahhnjponeeeaaGreatDoorPkPSearch3
import Derived.Test.YtcahhnjponeeeaaGreatDoorPkShelf
import Derived.Test.YtcahhnjponeeeaaGreatDoorPkCmdD
import Derived.Test.YtcahhnjponeeeaaGreatDoorPkFlagD
import Derived.Test.YtcahhnjponeeeaaGreatDoorPkContS
namespace Go.Proofs.YtcahhnjponeeeaaGreatDoor
open Go.RowKit Go.Shelf
theorem byte_text (W : World) (x : UInt8) : (convert 110 9 (.slice (some ⟨W.heap.size, 0, none⟩) 1 1)).run Tryz.prog (W.alloc (.cells #[.int .u8 (x.toNat : Int)] 5)) = .ok (.string ⟨#[x]⟩) (W.alloc (.cells #[.int .u8 (x.toNat : Int)] 5)) :=
  run_bytes_text (l := [x]) (Or.inr ⟨W.heap.size, 0, 1, rfl, by simp, by
    intro j u hj
    match j, hj with
    | 0, hj => simp [Lib.byteCells] at hj; subst hj; simp⟩) _ _ 5 Tryz.underlying110 Tryz.underlying5 Tryz.underlying9
set_option maxRecDepth 100000 in
set_option maxHeartbeats 2000000 in
theorem rsmall_any (S : List UInt8) (w : World) (hs : S.length ≤ 1000000000) :
    Calls Tryz.prog 33 #[.string ⟨S.toArray⟩] w fun e w' => e = .returned (.string ⟨(smallL S).toArray⟩) ∧ Below w.heap.size w w' := by
  have hts := text_size S
  go_enter Tryz.func33, Tryz.ntmps33
  go_wp2_with fail
  go_loopg [3, 8] S.length (fun g s3 s8 wr => ∃ (k : Nat) (U : List UInt8), k + g = S.length ∧ s8 = .int .i64 k ∧ s3 = .string ⟨U.toArray⟩ ∧ U.length = k ∧ Below w.heap.size w wr ∧ Hid (U = (S.take k).map smallC))
  case atStart => exact ⟨0, [], by omega, rfl, rfl, rfl, Below.refl _ _, by show _ = _; simp⟩
  case round =>
    obtain ⟨k, U, hk, rfl, rfl, hU, hbr, Hf⟩ := hrel
    by_cases hlt : k < S.length
    · obtain ⟨g', rfl⟩ : ∃ g', gk = g' + 1 := ⟨gk - 1, by omega⟩
      obtain ⟨c, hc⟩ : ∃ c, S[k] = c := ⟨_, rfl⟩
      have hget : ∀ h, (⟨S.toArray⟩ : ByteArray)[k]'h = c := fun h => hc
      have hcl := c.toNat_lt
      have hstep : (S.take (k + 1)).map smallC = U ++ [smallC c] := by
        rw [List.take_add_one, List.getElem?_eq_getElem hlt, hc, List.map_append, ← Hf.out]; rfl
      have hts2 := text_size U
      have hcat := text_cat U [smallC c]
      have ec := fun W => byte_text W (smallC c)
      by_cases hA : 65 ≤ c.toNat ∧ c.toNat ≤ 90
      · have hf : smallC c = c + 32 := by unfold smallC; rw [if_pos hA]
        have hfn : (smallC c).toNat = c.toNat + 32 := by rw [hf, UInt8.toNat_add]; show (c.toNat + 32) % 256 = _; omega
        have hfi : ((smallC c).toNat : Int) = (c.toNat : Int) + 32 := by omega
        generalize smallC c = d at hstep hcat ec hf hfn hfi
        simp only [hfi] at ec
        obtain ⟨C, hC⟩ : ∃ C : Int, (c.toNat : Int) = C := ⟨_, rfl⟩
        rw [hC] at ec
        have hget2 : ∀ h, (((⟨S.toArray⟩ : ByteArray)[k]'h).toNat : Int) = C := fun h => by rw [hget h]; exact hC
        have h1 : 65 ≤ C := by omega
        have h2 : C ≤ 90 := by omega
        have HX : Hid ((S.take (k + 1)).map smallC = U ++ [d]) := hstep
        have ecw := ec wr
        clear hc hfn hf hA hC hcl hfi hget hstep ec
        go_wp2_with fail
        go_roundg g'
        case measure => omega
        case rel => exact ⟨k + 1, U ++ [d], by omega, by go_num, rfl, by simp; omega, hbr.alloc hbr.size _, HX.out.symm⟩
      · have hf : smallC c = c := by unfold smallC; rw [if_neg hA]
        rw [hf] at hstep hcat ec
        obtain ⟨C, hC⟩ : ∃ C : Int, (c.toNat : Int) = C := ⟨_, rfl⟩
        rw [hC] at ec
        have hget2 : ∀ h, (((⟨S.toArray⟩ : ByteArray)[k]'h).toNat : Int) = C := fun h => by rw [hget h]; exact hC
        have h12 : C < 65 ∨ 90 < C := by omega
        have HX : Hid ((S.take (k + 1)).map smallC = U ++ [c]) := hstep
        have ecw := ec wr
        have hc0 : 0 ≤ C := by omega
        have hc1 : C < 256 := by omega
        clear hc hf hA hC hcl hget hstep ec
        rcases h12 with h12 | h12
        · go_wp2_with fail
          go_roundg g'
          case measure => omega
          case rel => exact ⟨k + 1, U ++ [c], by omega, by go_num, rfl, by simp; omega, hbr.alloc hbr.size _, HX.out.symm⟩
        · have h65 : 65 ≤ C := by omega
          go_wp2_with fail
          go_roundg g'
          case measure => omega
          case rel => exact ⟨k + 1, U ++ [c], by omega, by go_num, rfl, by simp; omega, hbr.alloc hbr.size _, HX.out.symm⟩
    · have hres : U = smallL S := by rw [Hf.out, List.take_of_length_le (by omega)]; rfl
      clear Hf
      subst hres
      go_wp2_with fail
      go_ret
      exact ⟨rfl, hbr⟩
end Go.Proofs.YtcahhnjponeeeaaGreatDoor
namespace Go.Proofs.YtcahhnjponeeeaaGreatDoor
open Go.RowKit Go.Shelf
set_option maxHeartbeats 400000 in
theorem rin_any (n lo hi : Int) (w : World) :
    Calls Tryz.prog 63 #[.int .i64 n, .int .i64 lo, .int .i64 hi] w fun e w' => e = .returned (.bool (decide (lo ≤ n) && decide (n ≤ hi))) ∧ w = w' := by
  by_cases h1 : lo ≤ n
  · by_cases h2 : n ≤ hi
    · simp only [h1, h2, decide_true, Bool.and_self]
      go_enter Tryz.func63, Tryz.ntmps63
      go_wp2_with fail
      go_ret
      exact ⟨rfl, rfl⟩
    · simp only [h1, h2, decide_true, decide_false, Bool.and_false]
      go_enter Tryz.func63, Tryz.ntmps63
      go_wp2_with fail
      go_ret
      exact ⟨rfl, rfl⟩
  · simp only [h1, decide_false, Bool.false_and]
    go_enter Tryz.func63, Tryz.ntmps63
    go_wp2_with fail
    go_ret
    exact ⟨rfl, rfl⟩
theorem byte_eqn (c : UInt8) (n : Nat) (hn : n < 256) : ((c.toNat : Int) == (n : Int)) = decide (c = UInt8.ofNat n) := by
  by_cases h : c = UInt8.ofNat n
  · rw [decide_eq_true h, h, beq_iff_eq]
    have : (UInt8.ofNat n).toNat = n := by simp; omega
    rw [this]
  · rw [decide_eq_false h, beq_eq_false_iff_ne]
    intro h2
    have h3 : c.toNat = n := by omega
    exact h (by rw [← h3]; simp)
theorem blank_split (c : UInt8) : blankC c = (((c.toNat : Int) == 32) || ((c.toNat : Int) == 9)) := by
  have e1 := byte_eqn c 32 (by decide)
  have e2 := byte_eqn c 9 (by decide)
  have e3 : ((32 : Nat) : Int) = 32 := rfl
  have e4 : ((9 : Nat) : Int) = 9 := rfl
  rw [e3] at e1; rw [e4] at e2
  rw [e1, e2]
  unfold blankC
  by_cases h : c = 32
  · subst h; rfl
  · by_cases h2 : c = 9
    · subst h2; rfl
    · have a1 : (c == 32) = false := by simpa using h
      have a2 : (c == 9) = false := by simpa using h2
      rw [a1, a2]
      have b1 : c ≠ UInt8.ofNat 32 := h
      have b2 : c ≠ UInt8.ofNat 9 := h2
      rw [decide_eq_false b1, decide_eq_false b2]
set_option maxHeartbeats 400000 in
theorem rblank_any (c : UInt8) (C : Int) (hC : (c.toNat : Int) = C) (w : World) :
    Calls Tryz.prog 60 #[.int .u8 C] w fun e w' => e = .returned (.bool (blankC c)) ∧ w = w' := by
  rw [blank_split c, hC]
  have hcl := c.toNat_lt
  have h0 : 0 ≤ C := by omega
  have h1 : C < 256 := by omega
  clear hC hcl
  cases e1 : (C == 32)
  · cases e2 : (C == 9)
    · go_enter Tryz.func60, Tryz.ntmps60
      go_wp2_with fail
      go_ret
      exact ⟨rfl, rfl⟩
    · go_enter Tryz.func60, Tryz.ntmps60
      go_wp2_with fail
      go_ret
      exact ⟨rfl, rfl⟩
  · go_enter Tryz.func60, Tryz.ntmps60
    go_wp2_with fail
    go_ret
    exact ⟨rfl, rfl⟩
set_option maxRecDepth 100000 in
set_option maxHeartbeats 4000000 in
theorem rbare_any (S : List UInt8) (w : World) (hs : S.length ≤ 1000000000) :
    Calls Tryz.prog 61 #[.string ⟨S.toArray⟩] w fun e w' => e = .returned (.string ⟨(trimB S).toArray⟩) ∧ w = w' := by
  go_enter Tryz.func61, Tryz.ntmps61
  go_wp2_with fail
  go_loopg [0] S.length (fun g s0 wr => ∃ (U : List UInt8), U.length = g ∧ s0 = .string ⟨U.toArray⟩ ∧ U.length ≤ S.length ∧ w = wr ∧ Hid (trimB U = trimB S))
  case atStart => exact ⟨S, rfl, rfl, Nat.le_refl _, rfl, rfl⟩
  case round =>
    obtain ⟨U, hk, rfl, hUl, rfl, Hf⟩ := hrel
    have hts := text_size U
    cases U with
    | nil =>
      have hres : trimB S = [] := by rw [← Hf.out]; rfl
      have HX := Lib.hid hres
      clear Hf hres
      go_wp2_with fail
      go_loopg [0] 0 (fun g s0 wr => s0 = .string ⟨#[]⟩ ∧ w = wr)
      case atStart => exact ⟨rfl, rfl⟩
      case round =>
        obtain ⟨rfl, rfl⟩ := hrel
        go_wp2_with fail
        go_ret
        exact ⟨(by have h := HX.out; rw [h]; first | done | rfl), rfl⟩
    | cons c r =>
      have hemp := w_empty (c :: r)
      rw [List.isEmpty_cons] at hemp
      have hlen : (c :: r).length = r.length + 1 := rfl
      have hget : ∀ h, (⟨(c :: r).toArray⟩ : ByteArray)[0]'h = c := fun h => rfl
      have cB := fun W => rblank_any c _ rfl W
      by_cases hb : blankC c = true
      · have HX : Hid (trimB r = trimB S) := (trimS_cons c r [32, 9] (by unfold blankC at hb; simpa using hb)).symm.trans Hf.out
        obtain ⟨g', rfl⟩ : ∃ g', gk = g' + 1 := ⟨gk - 1, by omega⟩
        rw [hb] at cB
        have hpt : (⟨(c :: r).toArray⟩ : ByteArray).extract 1 (r.length + 1) = ⟨r.toArray⟩ := by rw [text_part]; simp
        clear hb Hf
        go_wp2_with (go_at_call 60; with_reducible refine (cB _).mono ?_; rintro e w1 ⟨rfl, hw⟩; rw [← hw]; clear hw)
        go_roundg g'
        case measure => omega
        case rel => exact ⟨r, by omega, rfl, by omega, rfl, HX.out⟩
      · have hbf : blankC c = false := by simpa using hb
        have H0 : Hid (∀ x, (c :: r).head? = some x → [32, 9].contains x = false) := by
          intro x hx
          simp at hx
          rw [← hx]
          unfold blankC at hbf
          simpa using hbf
        rw [hbf] at cB
        clear hb hbf
        go_wp2_with (go_at_call 60; with_reducible refine (cB _).mono ?_; rintro e w1 ⟨rfl, hw⟩; rw [← hw]; clear hw)
        clear cB hget hlen hemp hts hk
        generalize c :: r = U at Hf H0 hUl
        go_loopg [0] U.length (fun g s0 wr => ∃ (V : List UInt8), V.length = g ∧ s0 = .string ⟨V.toArray⟩ ∧ V.length ≤ S.length ∧ w = wr ∧ Hid (trimB V = trimB S ∧ ∀ x, V.head? = some x → [32, 9].contains x = false))
        case atStart => exact ⟨U, rfl, rfl, hUl, rfl, Hf.out, H0.out⟩
        case round =>
          obtain ⟨V, hk, rfl, hVl, rfl, Hg⟩ := hrel
          clear Hf H0
          rcases List.eq_nil_or_concat V with rfl | ⟨t, d, rfl⟩
          · have hres : trimB S = [] := by rw [← Hg.out.1]; rfl
            have HX := Lib.hid hres
            clear Hg hres
            go_wp2_with fail
            go_ret
            exact ⟨(by have h := HX.out; rw [h]; first | done | rfl), rfl⟩
          · rw [List.concat_eq_append] at *
            have hemp : (⟨(t ++ [d]).toArray⟩ : ByteArray).toList.isEmpty = false := by rw [w_empty]; simp
            have hemp2 : (t ++ [d]).isEmpty = false := by simp
            have hlen : (t ++ [d]).length = t.length + 1 := by simp
            have hts := text_size (t ++ [d])
            rw [hlen] at hts
            have hget : ∀ h, (⟨(t ++ [d]).toArray⟩ : ByteArray)[t.length]'h = d := fun h => by
              show (t ++ [d])[t.length]'(by simp) = d
              simp
            have hpt : (⟨(t ++ [d]).toArray⟩ : ByteArray).extract 0 t.length = ⟨t.toArray⟩ := by rw [text_part]; simp
            have cB := fun W => rblank_any d _ rfl W
            have ht0 : ∀ x, t.head? = some x → [32, 9].contains x = false := by
              intro x hx
              refine Hg.out.2 x ?_
              cases t with
              | nil => simp at hx
              | cons a t => simpa using hx
            by_cases hb : blankC d = true
            · have HX : Hid (trimB t = trimB S) := (trimS_snoc d t [32, 9] (by unfold blankC at hb; simpa using hb)).symm.trans Hg.out.1
              obtain ⟨g', rfl⟩ : ∃ g', gk = g' + 1 := ⟨gk - 1, by omega⟩
              rw [hb] at cB
              have H0 := Lib.hid ht0
              clear hb Hg ht0
              go_wp2_with (go_at_call 60; with_reducible refine (cB _).mono ?_; rintro e w1 ⟨rfl, hw⟩; rw [← hw]; clear hw)
              go_roundg g'
              case measure => omega
              case rel => exact ⟨t, by omega, rfl, by omega, rfl, HX.out, H0.out⟩
            · have hbf : blankC d = false := by simpa using hb
              have hres : trimB S = t ++ [d] := by
                rw [← Hg.out.1]
                refine trimS_id _ _ Hg.out.2 ?_
                intro x hx
                simp at hx
                rw [← hx]
                unfold blankC at hbf
                simpa using hbf
              have HX := Lib.hid hres
              rw [hbf] at cB
              clear hb hbf Hg ht0 hres
              go_wp2_with (go_at_call 60; with_reducible refine (cB _).mono ?_; rintro e w1 ⟨rfl, hw⟩; rw [← hw]; clear hw)
              go_ret
              exact ⟨(by have h := HX.out; rw [h]; first | done | rfl), rfl⟩
set_option maxRecDepth 100000 in
set_option maxHeartbeats 4000000 in
theorem rsplit_any (S : List UInt8) (w : World) (hs : S.length ≤ 1000000000) (hM : MaxL w) :
    Calls Tryz.prog 34 #[.string ⟨S.toArray⟩] w fun e w' => e = .returned (.tuple #[.string ⟨(splitHd S).1.toArray⟩, .string ⟨(splitHd S).2.toArray⟩]) ∧ Below w.heap.size w w' := by
  obtain ⟨m, hm⟩ := hM
  have hts := text_size S
  have HI : Hid (∀ a, Calls Tryz.prog 56 #[.string ⟨(S.drop a).toArray⟩, .string ⟨#[13, 10]⟩] w fun e w' => e = .returned (.int .i64 (Lib.index (S.drop a) [13, 10])) ∧ w' = w) := fun a =>
    Tryz.strings_Index ⟨(S.drop a).toArray⟩ ⟨#[13, 10]⟩ m w (by rw [text_size]; simp; omega) hm
  go_enter Tryz.func34, Tryz.ntmps34
  go_wp2_with fail
  go_loopg [4] S.length (fun g s4 wr => ∃ (a : Nat), a + g = S.length ∧ s4 = .int .i64 a ∧ w = wr ∧ Hid (splFrom S a = splitHd S))
  case atStart => exact ⟨0, by omega, rfl, rfl, splFrom_zero S⟩
  case round =>
    obtain ⟨a, ha, rfl, rfl, Hf⟩ := hrel
    by_cases hlt : a < S.length
    · have cA := HI.out a
      have hpt : (⟨S.toArray⟩ : ByteArray).extract a S.length = ⟨(S.drop a).toArray⟩ := by rw [text_part, List.take_of_length_le (by simp)]
      rw [← hpt] at cA
      have hroom := Lib.index_room (S.drop a) [13, 10]
      have hge := Lib.index_ge (S.drop a) [13, 10]
      obtain ⟨I, hI⟩ : ∃ I, Lib.index (S.drop a) [13, 10] = I := ⟨_, rfl⟩
      rw [hI] at cA hroom hge
      clear hpt
      by_cases h0 : I < 0
      · have hR : splitHd S = (S, []) := by rw [← Hf.out]; exact splFrom_none (by rw [hI]; exact h0)
        have HX := Lib.hid hR
        clear hR Hf hI hroom hge
        go_wp2_with (go_at_call 56; with_reducible refine cA.mono ?_; rintro e w1 ⟨rfl, hw⟩; rw [hw]; clear hw)
        go_ret2
        exact ⟨(by have h := HX.out; rw [h]; first | done | rfl), Below.refl _ _⟩
      · obtain ⟨i, rfl⟩ := Int.eq_ofNat_of_zero_le (show 0 ≤ I by omega)
        have hr2 : a + i + 2 ≤ S.length := by have := hroom (by omega); simp at this; omega
        have hw1 : IntKind.i64.wrap ((i : Int) + 2) = (i : Int) + 2 := IntWalk.i64_in _ (by omega)
        have hw2 : IntKind.i64.wrap ((a : Int) + ((i : Int) + 2)) = ((a + i + 2 : Nat) : Int) := by rw [IntWalk.i64_in _ (by omega)]; omega
        cases i with
        | zero =>
          have hR : splitHd S = (S.take (a + 2), S.drop (a + 2)) := by rw [← Hf.out]; exact splFrom_here hI
          have HX := Lib.hid hR
          have hx1 : (⟨S.toArray⟩ : ByteArray).extract 0 (a + 2) = ⟨(S.take (a + 2)).toArray⟩ := by rw [text_part]; simp
          have hx2 : (⟨S.toArray⟩ : ByteArray).extract (a + 2) S.length = ⟨(S.drop (a + 2)).toArray⟩ := by rw [text_part]; congr 2; rw [List.take_of_length_le (by simp)]
          clear hR Hf hI hroom hge h0
          go_wp2_with (go_at_call 56; with_reducible refine cA.mono ?_; rintro e w1 ⟨rfl, hw⟩; rw [hw]; clear hw)
          go_region
          go_wp2_with fail
          go_ret2
          exact ⟨(by have h := HX.out; rw [h]; show Ending.returned (.tuple #[.string _, .string _]) = _; rw [hx1, hx2]), (Below.refl _ _).drew⟩
        | succ j =>
          have HX : Hid (splFrom S (a + (j + 1) + 2) = splitHd S) := (splFrom_step hI (by omega)).symm.trans Hf.out
          clear Hf hI hroom hge h0
          go_wp2_with (go_at_call 56; with_reducible refine cA.mono ?_; rintro e w1 ⟨rfl, hw⟩; rw [hw]; clear hw)
          go_roundg (S.length - (a + (j + 1) + 2))
          case measure => omega
          case rel => exact ⟨a + (j + 1) + 2, by omega, by go_num, rfl, HX.out⟩
    · have hR : splitHd S = (S, []) := by
        rw [← Hf.out]
        refine splFrom_none ?_
        rw [List.drop_eq_nil_of_le (by omega)]; decide
      have HX := Lib.hid hR
      clear hR Hf
      go_wp2_with fail
      go_ret2
      exact ⟨(by have h := HX.out; rw [h]; first | done | rfl), Below.refl _ _⟩
set_option maxRecDepth 100000 in
set_option maxHeartbeats 2000000 in
theorem rgreat_any (S : List UInt8) (w : World) (hs : S.length ≤ 1000000000) :
    Calls Tryz.prog 42 #[.string ⟨S.toArray⟩] w fun e w' => e = .returned (.string ⟨(greatL S).toArray⟩) ∧ Below w.heap.size w w' := by
  have hts := text_size S
  go_enter Tryz.func42, Tryz.ntmps42
  go_wp2_with fail
  go_loopg [3, 8] S.length (fun g s3 s8 wr => ∃ (k : Nat) (U : List UInt8), k + g = S.length ∧ s8 = .int .i64 k ∧ s3 = .string ⟨U.toArray⟩ ∧ U.length = k ∧ Below w.heap.size w wr ∧ Hid (U = (S.take k).map greatC))
  case atStart => exact ⟨0, [], by omega, rfl, rfl, rfl, Below.refl _ _, by show _ = _; simp⟩
  case round =>
    obtain ⟨k, U, hk, rfl, rfl, hU, hbr, Hf⟩ := hrel
    by_cases hlt : k < S.length
    · obtain ⟨g', rfl⟩ : ∃ g', gk = g' + 1 := ⟨gk - 1, by omega⟩
      obtain ⟨c, hc⟩ : ∃ c, S[k] = c := ⟨_, rfl⟩
      have hget : ∀ h, (⟨S.toArray⟩ : ByteArray)[k]'h = c := fun h => hc
      have hcl := c.toNat_lt
      have hstep : (S.take (k + 1)).map greatC = U ++ [greatC c] := by
        rw [List.take_add_one, List.getElem?_eq_getElem hlt, hc, List.map_append, ← Hf.out]; rfl
      have hts2 := text_size U
      have hcat := text_cat U [greatC c]
      have ec := fun W => byte_text W (greatC c)
      by_cases hA : 97 ≤ c.toNat ∧ c.toNat ≤ 122
      · have hf : greatC c = c - 32 := by unfold greatC; rw [if_pos hA]
        have hfn : (greatC c).toNat = c.toNat - 32 := by rw [hf, UInt8.toNat_sub]; show (256 - 32 + c.toNat) % 256 = _; omega
        have hfi : ((greatC c).toNat : Int) = (c.toNat : Int) - 32 := by omega
        generalize greatC c = d at hstep hcat ec hf hfn hfi
        simp only [hfi] at ec
        obtain ⟨C, hC⟩ : ∃ C : Int, (c.toNat : Int) = C := ⟨_, rfl⟩
        rw [hC] at ec
        have hget2 : ∀ h, (((⟨S.toArray⟩ : ByteArray)[k]'h).toNat : Int) = C := fun h => by rw [hget h]; exact hC
        have h1 : 97 ≤ C := by omega
        have h2 : C ≤ 122 := by omega
        have HX : Hid ((S.take (k + 1)).map greatC = U ++ [d]) := hstep
        have ecw := ec wr
        clear hc hfn hf hA hC hcl hfi hget hstep ec
        go_wp2_with fail
        go_roundg g'
        case measure => omega
        case rel => exact ⟨k + 1, U ++ [d], by omega, by go_num, rfl, by simp; omega, hbr.alloc hbr.size _, HX.out.symm⟩
      · have hf : greatC c = c := by unfold greatC; rw [if_neg hA]
        rw [hf] at hstep hcat ec
        obtain ⟨C, hC⟩ : ∃ C : Int, (c.toNat : Int) = C := ⟨_, rfl⟩
        rw [hC] at ec
        have hget2 : ∀ h, (((⟨S.toArray⟩ : ByteArray)[k]'h).toNat : Int) = C := fun h => by rw [hget h]; exact hC
        have h12 : C < 97 ∨ 122 < C := by omega
        have HX : Hid ((S.take (k + 1)).map greatC = U ++ [c]) := hstep
        have ecw := ec wr
        have hc0 : 0 ≤ C := by omega
        have hc1 : C < 256 := by omega
        clear hc hf hA hC hcl hget hstep ec
        rcases h12 with h12 | h12
        · go_wp2_with fail
          go_roundg g'
          case measure => omega
          case rel => exact ⟨k + 1, U ++ [c], by omega, by go_num, rfl, by simp; omega, hbr.alloc hbr.size _, HX.out.symm⟩
        · have h65 : 97 ≤ C := by omega
          go_wp2_with fail
          go_roundg g'
          case measure => omega
          case rel => exact ⟨k + 1, U ++ [c], by omega, by go_num, rfl, by simp; omega, hbr.alloc hbr.size _, HX.out.symm⟩
    · have hres : U = greatL S := by rw [Hf.out, List.take_of_length_le (by omega)]; rfl
      clear Hf
      subst hres
      go_wp2_with fail
      go_ret
      exact ⟨rfl, hbr⟩
end Go.Proofs.YtcahhnjponeeeaaGreatDoor
namespace Go.Proofs.YtcahhnjponeeeaaGreatDoor
open Go.RowKit Go.Shelf
theorem any3 (l cs : List UInt8) : Lib.containsAny l cs = l.any (cs.contains ·) := by
  induction l with
  | nil => rfl
  | cons c r ih =>
    rw [List.any_cons, ← ih]
    unfold Lib.containsAny
    rw [Lib.indexAny]
    by_cases h : cs.contains c = true
    · rw [if_pos h, h]; rfl
    · rw [if_neg h]
      have h2 : cs.contains c = false := by simpa using h
      rw [h2, Bool.false_or]
      by_cases h3 : Lib.indexAny r cs < 0
      · simp [h3]
        omega
      · have h4 : ¬ (Lib.indexAny r cs = -1) := by omega
        simp [h3, h4]
        omega
theorem bad_step {l : List UInt8} {j : Nat} {c : UInt8} (hc : l[j]? = some c) : badL (l.drop j) = ((c == 13 || (c == 10 || c == 0)) || badL (l.drop (j + 1))) := by
  have hj : j < l.length := (List.getElem?_eq_some_iff.1 hc).1
  have e : l[j] = c := by rw [List.getElem?_eq_getElem hj] at hc; exact Option.some.inj hc
  unfold badL
  rw [any3, any3, List.drop_eq_getElem_cons hj, e, List.any_cons]
  simp only [List.contains_cons, List.contains_nil, Bool.or_false]
def nameP (c : UInt8) : Bool := decide (33 ≤ c.toNat) && decide (c.toNat ≤ 126)
/-- what the reference's Fields returns -/
def RFieldsRes (r : (Nat × Nat) ⊕ List Fld) (v : Value) (w : World) : Prop :=
  match r with
  | .inl x => v = .tuple #[.slice none 0 0, .agg #[.int .i64 (x.1 : Int), .int .i64 (x.2 : Int)]]
  | .inr l => ∃ ao cap, v = .tuple #[.slice ao l.length cap, .agg #[.int .i64 0, .int .i64 (-1)]] ∧ FldRow w (.slice ao l.length cap) l ∧ Lens l
theorem results_tmp_row {P : Program} {fn : Func} {t p : Tmp} {ty : TypeId} (h : fn.results = #[.tmp t, .cell p ty]) (tmps : Array Value) (w : World) (g : Nat) (T : TypeId) (cs : Array Value) (fr : Nat × Nat) (d : TypeDesc)
    (hp : tmps.getD p undef = .pointer (some ⟨g, 0, none⟩)) (hg : w.heap[g]? = some (.cells cs T fr))
    (hu : P.underlying ty = some d) (hd : (match d with | .struct _ | .array _ _ => true | _ => false) = true) (hi : (P.info? ty).map (·.size) = some cs.size) :
    (results fn tmps).run P w = .ok (.tuple #[tmps.getD t undef, .agg cs]) w := by
  have hp' : tmps[p]?.getD undef = .pointer (some ⟨g, 0, none⟩) := by simpa using hp
  simp [results, h, hp', asAddr, run_loadVar_row w g T ty cs fr d hg hu hd hi]
theorem set_two {w : World} {U : Nat} {a b : Value} {T : TypeId} (h : w.heap[U]? = some (.cells #[a, b] T (0, 0))) (x y : Value) : ((w.setCell ⟨U, 0, none⟩ x).setCell ⟨U, 1, none⟩ y).heap[U]? = some (.cells #[x, y] T (0, 0)) := by
  simp only [World.setCell, Array.getElem?_modify, if_pos, h]
  simp
theorem set_two_drew {w : World} {U : Nat} {a b : Value} {T : TypeId} (h : w.heap[U]? = some (.cells #[a, b] T (0, 0))) (x y : Value) : ((w.setCell ⟨U, 0, none⟩ x).setCell ⟨U, 1, none⟩ y).drew.heap[U]? = some (.cells #[x, y] T (0, 0)) := set_two h x y
theorem below_two {w W : World} (h : Below w.heap.size w W) (x y : Value) : Below w.heap.size w ((W.setCell ⟨w.heap.size, 0, none⟩ x).setCell ⟨w.heap.size, 1, none⟩ y) :=
  (h.setCell (p := ⟨w.heap.size, 0, none⟩) (Nat.le_refl _) _).setCell (p := ⟨w.heap.size, 1, none⟩) (Nat.le_refl _) _
theorem owns_two {w : World} {B : Nat} {e : TypeId} {sz : Nat} {v : Value} {n : Nat} {xs : List Value} (h : w.ownsRow B e sz v n xs) {U : Nat} {a b : Value} {T : TypeId} (hU : w.heap[U]? = some (.cells #[a, b] T (0, 0))) (he : T ≠ e) (x y : Value) : ((w.setCell ⟨U, 0, none⟩ x).setCell ⟨U, 1, none⟩ y).ownsRow B e sz v n xs := by
  refine owns_same h ?_
  intro k o hk hor
  refine setCell_same (setCell_same hk ?_) ?_ <;>
  · intro hkW
    replace hkW : k = U := hkW
    rw [hkW, hU] at hk
    have hoo := Option.some.inj hk
    obtain ⟨c, fz', ho⟩ := hor
    rw [ho] at hoo; cases hoo; exact he rfl
theorem fault_info : (Tryz.prog.info? 50).map (·.size) = some 2 := by kernel_rfl
theorem beq_int (c : UInt8) (n : Nat) (hn : n < 256) : (c == UInt8.ofNat n) = ((c.toNat : Int) == (n : Int)) := by
  rw [byte_eqn c n hn]; rfl
theorem step_app2 {P : Program} {ops : Array Oper} {o : Oper} {a : Act} {K : Act → World → Prop} {Q : Exit → Act → World → Prop} {E : Prop} (hgd : o.guard = none) (s x : Operand) (t : TypeId) (ho : o.op = .call { callee := .builtin .append, args := #[s, x], argTypes := #[t, t] })
    (e : TypeId) {z : Value} {bytes : Nat} (ht : P.underlying t = some (.slice e)) (hinfo : (P.info? e).map (fun i => (i.zero, i.size, i.bytes)) = some (some z, 2, bytes)) (hzs : z.cells.size = 2)
    (base : Nat) (v : Value) (n : Nat) (xs : List Value) (w : World) (hs : a.eval s = v) (hown : w.ownsRow base e 2 v n xs)
    (y y2 : Value) (hx : a.eval x = .slice (some ⟨w.heap.size, 0, none⟩) 1 1) (h1 : y.oneCell' = true) (h2 : y2.oneCell' = true)
    (hn : n + 1 ≤ 4294967296) (hb : bytes ≤ 64) (hbase : base ≤ w.heap.size)
    (h : ∀ v' w', w'.ownsRow base e 2 v' (n + 1) (xs ++ [y, y2]) → (w.alloc (.cells #[y, y2] e)).grownBy w' v.ownBlock → v' ≠ .slice none 0 0 → K (a.put o.dst v') w') :
    if Region.wanted o (yielded ops a.tmps) = true then Oper.wp P o a (w.alloc (.cells #[y, y2] e)) K Q else E := by
  have hw : Region.wanted o (yielded ops a.tmps) = true := by simp [Region.wanted, hgd]
  rw [if_pos hw]
  obtain ⟨i0, hi, hz0, hz1, hz2⟩ := info_parts hinfo
  refine wp_append_own _ s x t ho base e i0 z 2 bytes ht hi hz0 hz1 hz2 hzs (by decide) v n xs hs (hown.alloc _) ⟨w.heap.size, 0, none⟩ 1 1 [y, y2] hx rfl ?_ ?_ ?_ ?_ ?_ ?_
  · intro j u hj
    match j, hj with
    | 0, hj => simp at hj; subst hj; simp [Addr.add]
    | 1, hj => simp at hj; subst hj; simp [Addr.add]
  · intro u hu; simp at hu; rcases hu with rfl | rfl
    · exact h1
    · exact h2
  · unfold maxLen; omega
  · have : (n + 1) * bytes ≤ 4294967296 * 64 := Nat.mul_le_mul hn hb
    omega
  · simp; omega
  · intro v' w' k1 k2 k3
    refine h v' w' k1 k2 ?_
    intro hv
    have := (k3.1 hv).2
    omega
set_option maxRecDepth 100000 in
set_option maxHeartbeats 16000000 in
theorem rfields_any (S : List UInt8) (w : World) (hs : S.length ≤ 9000) (hM : MaxL w) (hF : FineG w) :
    Calls Tryz.prog 36 #[.string ⟨S.toArray⟩] w fun e w' => ∃ v, e = .returned v ∧ RFieldsRes (fieldsL S) v w' ∧ Below w.heap.size w w' := by
  have cH := fun W hW => rsplit_any S W (by omega) hW
  have hHl := splitHd_len S
  obtain ⟨R, hR⟩ : ∃ R, fieldsL S = R := ⟨_, rfl⟩
  have hR2 : fieldsF 0 (Lib.split (splitHd S).1 [13, 10]) [] = R := hR
  rw [hR]
  have cS := fun W (hW : MaxL W) => split_l (splitHd S).1 [13, 10] W (by omega) (by decide) hW
  have hPl := fun p (hp : p ∈ Lib.split (splitHd S).1 [13, 10]) => Nat.le_trans (split_len hp) hHl
  have hPm := split_many (splitHd S).1 [13, 10]
  generalize Lib.split (splitHd S).1 [13, 10] = P at cS hPl hPm hR2
  generalize (splitHd S).1 = H at cH cS hHl hPm
  generalize (splitHd S).2 = B at cH
  have hPn : P.length ≤ 9002 := by omega
  have HPL := Lib.hid hPl
  have HR := Lib.hid hR2
  have hb0 : Below w.heap.size w (w.alloc (.cells #[.int .i64 0, .int .i64 0] 50)) := (Below.refl _ _).alloc (Nat.le_refl _) _
  have hM0 := hM.below hb0
  clear hR hR2 hPl hPm hHl
  go_enter Tryz.func36, Tryz.ntmps36
  go_wp2_with (first
    | (go_at_call 34; with_reducible refine (cH _ hM0).mono ?_; rintro e w1 ⟨rfl, hb1⟩; have hM1 := hM0.below hb1)
    | (go_at_call 49; with_reducible refine (cS _ hM1).mono ?_; rintro e w2 ⟨rfl, hcl, hsz, hb2⟩))
  have hU2 : w2.heap[w.heap.size]? = some (.cells #[.int .i64 0, .int .i64 0] 50 (0, 0)) := below_same hb2 (below_same hb1 (World.heap_alloc_new _ _))
  have hb01 := hb0.trans (hb1.mono hb0.size)
  have hb12 := hb01.trans (hb2.mono hb01.size)
  have HCL := Lib.hid hcl
  have hF2 := hF.below hb12
  clear hcl cS cH hb0 hM0
  go_loopg [6, 22] P.length (fun g s6 s22 wr => ∃ (k : Nat) (out : List Fld), k + g = P.length ∧ s22 = .int .i64 k ∧ out.length ≤ 40 ∧ Hid (Bnd out 9000 (9001 * k)) ∧
    wr.ownsRow w2.heap.size 74 2 s6 out.length (fldCells out) ∧ Below w2.heap.size w2 wr ∧ Hid (fieldsF k (P.drop k) out = R))
  case atStart => exact ⟨0, [], by omega, rfl, by simp, (by intro f hf; simp at hf), World.ownsRow_nil _ _ _ _, Below.refl _ _, by show _ = _; simpa using HR.out⟩
  case round =>
    obtain ⟨k, out, hk, rfl, hol, HB, hown, hbr, Hf⟩ := hrel
    obtain ⟨ao, cap, rfl, hao⟩ := owns_slice' hown
    have HAO := Lib.hid hao
    clear hao
    have hfin := fun (W : World) (hW : Below w2.heap.size w2 W) => hb12.trans (hW.mono hb12.size)
    by_cases hlt : k < P.length
    · obtain ⟨g', rfl⟩ : ∃ g', gk = g' + 1 := ⟨gk - 1, by omega⟩
      obtain ⟨l, hl⟩ : ∃ l, P[k]? = some l := ⟨P[k], List.getElem?_eq_getElem hlt⟩
      have hcell := (hbr.cell (p := ⟨w1.heap.size, k, none⟩) hsz).trans (HCL.out k l hl)
      have hll := HPL.out l (List.mem_of_getElem? hl)
      have hst := Lib.hid (fields_step hl Hf.out)
      have hkl : k ≤ 9002 := by omega
      clear hl
      have hown1 := hown.alloc (.cells #[.int .i64 3, .int .i64 (k : Int)] 50)
      have hbr1 := hbr.alloc hbr.size (.cells #[.int .i64 3, .int .i64 (k : Int)] 50)
      by_cases hle : l = []
      · subst hle
        have hf2 := Lib.hid (show fieldsF (k + 1) (P.drop (k + 1)) out = R from by have := hst.out; rwa [if_pos rfl] at this)
        clear hst
        go_wp2_with fail
        go_roundg g'
        case measure => omega
        case rel => exact ⟨k + 1, out, by omega, by go_num, hol, HB.out.more (by omega), hown1, hbr1, hf2.out⟩
      · have hemp : (⟨l.toArray⟩ : ByteArray).toList.isEmpty = false := by rw [Lib.toList_data]; simpa using hle
        have hemp2 : l.isEmpty = false := by simpa using hle
        have hts := text_size l
        have hbad1 : (wr.alloc (.cells #[.int .i64 3, .int .i64 (k : Int)] 50)).heap[wr.heap.size]? = some (.cells #[.int .i64 3, .int .i64 (k : Int)] 50 (0, 0)) := World.heap_alloc_new _ _
        have hwl : wr.heap.size < (wr.alloc (.cells #[.int .i64 3, .int .i64 (k : Int)] 50)).heap.size := by simp
        go_wp2_with fail
        generalize wr.alloc (.cells #[.int .i64 3, .int .i64 (k : Int)] 50) = wq at hown1 hbr1 hbad1 hwl
        have hU : wq.heap[w.heap.size]? = some (.cells #[.int .i64 0, .int .i64 0] 50 (0, 0)) := below_same hbr1 hU2
        have fU := Lib.frozen_of_heap hU
        have u0 := (two_cells hU).1
        have u1 := (two_cells hU).2
        have b0 := (two_cells hbad1).1
        have b1 := (two_cells hbad1).2
        have hUb : w.heap.size ≤ w.heap.size := Nat.le_refl _
        have hst1 := hst.out
        rw [if_neg hle] at hst1
        have HBAD : Hid (badL l = true → (.inl (3, k) : (Nat × Nat) ⊕ List Fld) = R) := fun h => by rw [if_pos h] at hst1; exact hst1
        clear hst1
        go_loopg [33] l.length (fun g s33 wp => ∃ (j : Nat), j + g = l.length ∧ s33 = .int .i64 j ∧ wq = wp ∧ Hid (badL l = badL (l.drop j)))
        case atStart => exact ⟨0, by omega, rfl, rfl, rfl⟩
        case round =>
          obtain ⟨j, hj, rfl, rfl, HJ⟩ := hrel
          by_cases hjl : j < l.length
          · obtain ⟨g2, rfl⟩ : ∃ g2, gk = g2 + 1 := ⟨gk - 1, by omega⟩
            obtain ⟨c, hc⟩ : ∃ c, l[j]? = some c := ⟨l[j], List.getElem?_eq_getElem hjl⟩
            have hget : ∀ h, (⟨l.toArray⟩ : ByteArray)[j]'h = c := fun h => by
              have := List.getElem?_eq_getElem hjl
              rw [hc] at this
              exact (Option.some.inj this).symm
            have hbs := bad_step hc
            have HJ2 := HJ.out.trans hbs
            have x13 := beq_int c 13 (by decide)
            have x10 := beq_int c 10 (by decide)
            have x0 := beq_int c 0 (by decide)
            have HB1 : Hid (((c.toNat : Int) == 13 || ((c.toNat : Int) == 10 || (c.toNat : Int) == 0)) = true → badL l = true) := by
              intro h
              rw [HJ2]
              have y13 : (c == 13) = ((c.toNat : Int) == 13) := x13
              have y10 : (c == 10) = ((c.toNat : Int) == 10) := x10
              have y0 : (c == 0) = ((c.toNat : Int) == 0) := x0
              rw [y13, y10, y0, h]; rfl
            have HB2 : Hid (((c.toNat : Int) == 13 || ((c.toNat : Int) == 10 || (c.toNat : Int) == 0)) = false → badL l = badL (l.drop (j + 1))) := by
              intro h
              rw [HJ2]
              have y13 : (c == 13) = ((c.toNat : Int) == 13) := x13
              have y10 : (c == 10) = ((c.toNat : Int) == 10) := x10
              have y0 : (c == 0) = ((c.toNat : Int) == 0) := x0
              rw [y13, y10, y0, h]; rfl
            clear hc hbs HJ2 x13 x10 x0
            cases e13 : ((c.toNat : Int) == 13)
            · cases e10 : ((c.toNat : Int) == 10)
              · cases e0 : ((c.toNat : Int) == 0)
                · have HX := Lib.hid (HB2.out (by rw [e13, e10, e0]; rfl))
                  clear HB1 HB2
                  go_wp2_with fail
                  go_roundg g2
                  case measure => omega
                  case rel => exact ⟨j + 1, by omega, by go_num, rfl, HX.out⟩
                · have HX := Lib.hid (HBAD.out (HB1.out (by rw [e13, e10, e0]; rfl)))
                  clear HB1 HB2
                  go_wp2_with fail
                  go_region
                  go_wp2_with fail
                  refine bodyPost_ret (results_tmp_row (P := Tryz.prog) rfl _ _ w.heap.size _ _ _ _ rfl (set_two_drew hU _ _) Tryz.underlying50 rfl fault_info) rfl ?_
                  exact ⟨_, rfl, by rw [← HX.out]; rfl, (below_two (hfin _ hbr1) _ _).drew⟩
              · have HX := Lib.hid (HBAD.out (HB1.out (by rw [e13, e10]; rfl)))
                clear HB1 HB2
                go_wp2_with fail
                go_region
                go_wp2_with fail
                refine bodyPost_ret (results_tmp_row (P := Tryz.prog) rfl _ _ w.heap.size _ _ _ _ rfl (set_two_drew hU _ _) Tryz.underlying50 rfl fault_info) rfl ?_
                exact ⟨_, rfl, by rw [← HX.out]; rfl, (below_two (hfin _ hbr1) _ _).drew⟩
            · have HX := Lib.hid (HBAD.out (HB1.out (by rw [e13]; rfl)))
              clear HB1 HB2
              go_wp2_with fail
              go_region
              go_wp2_with fail
              refine bodyPost_ret (results_tmp_row (P := Tryz.prog) rfl _ _ w.heap.size _ _ _ _ rfl (set_two_drew hU _ _) Tryz.underlying50 rfl fault_info) rfl ?_
              exact ⟨_, rfl, by rw [← HX.out]; rfl, (below_two (hfin _ hbr1) _ _).drew⟩
          · have hbadf : badL l = false := by
              rw [HJ.out, List.drop_eq_nil_of_le (by omega)]; rfl
            obtain ⟨c, hc0⟩ : ∃ c, l.headD 0 = c := ⟨_, rfl⟩
            have hget : ∀ h, (⟨l.toArray⟩ : ByteArray)[0]'h = c := fun h => (head_get l h).trans hc0
            have hlen1 : 0 < l.length := List.length_pos_iff.2 hle
            have hlen1z : (0 : Int) < (l.length : Int) := by omega
            have hst2 : (if blankC c = true then (if out = [] then .inl (3, k) else fieldsF (k + 1) (P.drop (k + 1)) (lastGrow out l))
              else if (!(Lib.cut l [58]).2.2 || !nameL (Lib.cut l [58]).1) = true then .inl (3, k)
              else if out.length = 40 then .inl (4, k)
              else fieldsF (k + 1) (P.drop (k + 1)) (out ++ [((Lib.cut l [58]).1, trimB (Lib.cut l [58]).2.1)])) = R := by
              have := hst.out
              rw [if_neg hle, hbadf, if_neg (by decide), hc0] at this
              exact this
            have cB := fun W => rblank_any c _ rfl W
            clear HJ hst hbadf hc0 HBAD
            cases hbl : blankC c
            · rw [hbl, if_neg (by decide)] at hst2
              rw [hbl] at cB
              clear hbl
              have cI := Tryz.strings_IndexByte ⟨l.toArray⟩ 58 wq
              have eI : Lib.indexByte (⟨l.toArray⟩ : ByteArray).data.toList (58 : Int).toNat.toUInt8 = Lib.indexByte l 58 := rfl
              rw [eI] at cI
              have hge := Lib.indexByte_ge l 58
              have hil := indexByte_lt l 58
              have hcr := cut_index l 58
              have hnr := fun (n : Nat) hk hl => name_ref (l := l) (k := n) hk hl
              clear eI
              generalize Lib.indexByte l 58 = I at cI hge hil hcr hnr
              have cR := fun W => rin_any I 1 60 W
              by_cases hin : 1 ≤ I ∧ I ≤ 60
              · have eR : (decide ((1 : Int) ≤ I) && decide (I ≤ 60)) = true := by rw [Bool.and_eq_true, decide_eq_true_eq, decide_eq_true_eq]; exact hin
                rw [eR] at cR
                obtain ⟨i, rfl⟩ := Int.eq_ofNat_of_zero_le (show 0 ≤ I by omega)
                have hi1 : 1 ≤ i := by omega
                have hi60 : i ≤ 60 := by omega
                have hil2 : i + 1 ≤ l.length := by omega
                have hnm := hnr i rfl (by omega)
                have hall : (l.take i).all (fun c => decide (33 ≤ c.toNat) && decide (c.toNat ≤ 126)) = (l.take i).all nameP := rfl
                rw [hall, decide_eq_true hi1, decide_eq_true hi60, Bool.and_true, Bool.and_true] at hnm
                have hc2 := hcr.2 (by omega)
                rw [Int.toNat_natCast] at hc2
                have hc1 : (Lib.cut l [58]).2.2 = true := by rw [hcr.1]; simp
                rw [hc1, hc2.1, hc2.2, hnm, Bool.not_true, Bool.false_or] at hst2
                have hst3 := Lib.hid hst2
                clear hst2 hnm hall hc2 hc1 hcr hnr hge hil eR hin
                go_wp2_with (first
                  | (go_at_call 60; with_reducible refine (cB _).mono ?_; rintro e w3 ⟨rfl, hw⟩; rw [← hw]; clear hw)
                  | (go_at_call 62; with_reducible refine cI.mono ?_; rintro e w3 ⟨rfl, hw⟩; rw [hw]; clear hw)
                  | (go_at_call 63; with_reducible refine (cR _).mono ?_; rintro e w3 ⟨rfl, hw⟩; rw [← hw]; clear hw))
                go_loopg [110] i (fun g s110 wp => ∃ (j : Nat), j + g = i ∧ s110 = .int .i64 j ∧ wq = wp ∧ Hid ((l.take i).all nameP = ((l.take i).drop j).all nameP))
                case atStart => exact ⟨0, by omega, rfl, rfl, rfl⟩
                case round =>
                  obtain ⟨j, hj, rfl, rfl, HJ⟩ := hrel
                  by_cases hji : j < i
                  · obtain ⟨g2, rfl⟩ : ∃ g2, gk = g2 + 1 := ⟨gk - 1, by omega⟩
                    have hjl : j < l.length := by omega
                    have hjlz : (j : Int) < (l.length : Int) := by omega
                    obtain ⟨d, hd⟩ : ∃ d, l[j] = d := ⟨_, rfl⟩
                    have hgd : ∀ h, (⟨l.toArray⟩ : ByteArray)[j]'h = d := fun h => hd
                    have cR := fun W => rin_any (d.toNat : Int) 33 126 W
                    have eR : (decide ((33 : Int) ≤ (d.toNat : Int)) && decide ((d.toNat : Int) ≤ 126)) = nameP d := by
                      unfold nameP
                      congr 1 <;> exact decide_eq_decide.2 (by omega)
                    simp only [eR] at cR
                    have hjs := HJ.out
                    rw [List.drop_eq_getElem_cons (by rw [List.length_take]; omega), List.all_cons, List.getElem_take, hd] at hjs
                    have hdl := d.toNat_lt
                    clear hd eR
                    cases hp : nameP d
                    · have HX : Hid ((.inl (3, k) : (Nat × Nat) ⊕ List Fld) = R) := by
                        have := hst3.out
                        rw [hjs, hp] at this
                        exact this
                      rw [hp] at cR
                      clear hjs hp
                      go_wp2_with (first
                        | (go_at_call 63; with_reducible refine (cR _).mono ?_; rintro e w3 ⟨rfl, hw⟩; rw [← hw]; clear hw))
                      go_region
                      go_wp2_with fail
                      refine bodyPost_ret (results_tmp_row (P := Tryz.prog) rfl _ _ w.heap.size _ _ _ _ rfl (set_two_drew hU _ _) Tryz.underlying50 rfl fault_info) rfl ?_
                      exact ⟨_, rfl, by rw [← HX.out]; rfl, (below_two (hfin _ hbr1) _ _).drew⟩
                    · rw [hp, Bool.true_and] at hjs
                      have HX := Lib.hid hjs
                      rw [hp] at cR
                      clear hjs hp
                      go_wp2_with (first
                        | (go_at_call 63; with_reducible refine (cR _).mono ?_; rintro e w3 ⟨rfl, hw⟩; rw [← hw]; clear hw))
                      go_roundg g2
                      case measure => omega
                      case rel => exact ⟨j + 1, by omega, by go_num, rfl, HX.out⟩
                  · have hst4 := hst3.out
                    rw [HJ.out, List.drop_eq_nil_of_le (by rw [List.length_take]; omega), List.all_nil, Bool.not_true, if_neg (by decide)] at hst4
                    have hwz : IntKind.i64.wrap ((i : Int) + 1) = (i : Int) + 1 := IntWalk.i64_in _ (by omega)
                    by_cases h40 : out.length = 40
                    · rw [if_pos h40] at hst4
                      have HX := Lib.hid hst4
                      have h40z : (40 : Int) ≤ (out.length : Int) := by omega
                      clear hst4 h40 hwz
                      go_wp2_with fail
                      refine bodyPost_ret (results_tmp_row (P := Tryz.prog) rfl _ _ w.heap.size _ _ _ _ rfl (set_two hU _ _) Tryz.underlying50 rfl fault_info) rfl ?_
                      exact ⟨_, rfl, by rw [← HX.out]; rfl, below_two (hfin _ hbr1) _ _⟩
                    · rw [if_neg h40] at hst4
                      have HX := Lib.hid hst4
                      have h40z : (out.length : Int) < 40 := by omega
                      have hol2 : out.length < 40 := by omega
                      have hpt1 : (⟨l.toArray⟩ : ByteArray).extract 0 i = ⟨(l.take i).toArray⟩ := by rw [text_part]; simp
                      have hpt2 : (⟨l.toArray⟩ : ByteArray).extract (i + 1) l.length = ⟨(l.drop (i + 1)).toArray⟩ := by rw [text_part, List.take_of_length_le (by simp)]
                      have hw2 : (0 : Int) ≤ (i : Int) + 1 := by omega
                      have hw3 : ((i : Int) + 1).toNat = i + 1 := by omega
                      have hw4 : (i : Int) + 1 ≤ (l.length : Int) := by omega
                      have hw5 : (i : Int) ≤ (l.length : Int) := by omega
                      have cVW := fun W => rbare_any (l.drop (i + 1)) W (by rw [List.length_drop]; omega)
                      have hvl : (trimB (l.drop (i + 1))).length ≤ 9000 := Nat.le_trans (trimS_len _ _) (by rw [List.length_drop]; omega)
                      have hnl : (l.take i).length ≤ 9000 := by rw [List.length_take]; omega
                      generalize trimB (l.drop (i + 1)) = u at cVW hvl HX
                      have hown4 := hown1.drew
                      have hbr4 := hbr1.drew
                      have hb1s : w2.heap.size ≤ wq.drew.heap.size := hbr4.size
                      have cV3 : ∀ W, Calls Tryz.prog 61 #[.string ((⟨l.toArray⟩ : ByteArray).extract (i + 1) l.length)] W fun e w' => e = .returned (.string ⟨u.toArray⟩) ∧ W = w' := fun W => by
                        have := cVW W
                        rw [hpt2]; exact this
                      clear hst4 h40 cVW hpt2
                      go_wp2_with fail
                      go_region_law (first
                        | (refine step_app2 rfl _ _ 69 rfl 74 Tryz.underlying69 fld_info rfl w2.heap.size (.slice ao out.length cap) _ _ _ rfl hown4 _ _ rfl rfl rfl (by omega) (by decide) hb1s ?_; intro v' w8 hown3 hg3 hv3)
                        | (go_simp; go_at_call 61; with_reducible refine (cV3 _).mono ?_; rintro e w7 ⟨rfl, hw⟩; rw [← hw]; clear hw))
                      all_goals
                        have y8 := below_app2 hbr4 hb1s hown4 hg3
                        rw [fldCells_snoc out (l.take i, u)] at hown3
                        go_wp2_with fail
                        go_roundg g'
                        case measure => omega
                        case rel =>
                          refine ⟨k + 1, out ++ [(l.take i, u)], by omega, by go_num, by simp; omega, ?_, by simpa using hown3, y8, HX.out⟩
                          intro f hf
                          rw [List.mem_append] at hf
                          rcases hf with hf | hf
                          · have := HB.out f hf
                            exact ⟨this.1, by omega⟩
                          · simp at hf; rw [hf]; exact ⟨hnl, by show u.length ≤ _; omega⟩
              · have HX : Hid ((.inl (3, k) : (Nat × Nat) ⊕ List Fld) = R) := by
                  show _ = _
                  rw [← hst2]
                  refine (if_pos ?_).symm
                  rcases Int.lt_or_le I 0 with h0 | h0
                  · rw [hcr.1, decide_eq_false (by omega)]; rfl
                  · obtain ⟨i, rfl⟩ := Int.eq_ofNat_of_zero_le h0
                    have hc2 := hcr.2 (by omega)
                    rw [Int.toNat_natCast] at hc2
                    rw [hc2.1, hnr i rfl (by omega)]
                    have : (decide (1 ≤ i) && decide (i ≤ 60)) = false := by
                      rw [Bool.and_eq_false_iff, decide_eq_false_iff_not, decide_eq_false_iff_not]; omega
                    rw [this, Bool.and_false]; simp
                have eR : (decide ((1 : Int) ≤ I) && decide (I ≤ 60)) = false := by rw [Bool.and_eq_false_iff, decide_eq_false_iff_not, decide_eq_false_iff_not]; omega
                rw [eR] at cR
                clear hst2 hcr hnr eR hin hil hge
                go_wp2_with (first
                  | (go_at_call 60; with_reducible refine (cB _).mono ?_; rintro e w3 ⟨rfl, hw⟩; rw [← hw]; clear hw)
                  | (go_at_call 62; with_reducible refine cI.mono ?_; rintro e w3 ⟨rfl, hw⟩; rw [hw]; clear hw)
                  | (go_at_call 63; with_reducible refine (cR _).mono ?_; rintro e w3 ⟨rfl, hw⟩; rw [← hw]; clear hw))
                go_region
                go_wp2_with fail
                refine bodyPost_ret (results_tmp_row (P := Tryz.prog) rfl _ _ w.heap.size _ _ _ _ rfl (set_two_drew hU _ _) Tryz.underlying50 rfl fault_info) rfl ?_
                exact ⟨_, rfl, by rw [← HX.out]; rfl, (below_two (hfin _ hbr1) _ _).drew⟩
            · rw [hbl, if_pos rfl] at hst2
              rw [hbl] at cB
              clear hbl
              rcases List.eq_nil_or_concat out with rfl | ⟨o, f, rfl⟩
              · have HX : Hid ((.inl (3, k) : (Nat × Nat) ⊕ List Fld) = R) := by rw [if_pos rfl] at hst2; exact hst2
                clear hst2
                go_wp2_with (first
                  | (go_at_call 60; with_reducible refine (cB _).mono ?_; rintro e w3 ⟨rfl, hw⟩; rw [← hw]; clear hw))
                go_region
                go_wp2_with fail
                refine bodyPost_ret (results_tmp_row (P := Tryz.prog) rfl _ _ w.heap.size _ _ _ _ rfl (set_two_drew hU _ _) Tryz.underlying50 rfl fault_info) rfl ?_
                exact ⟨_, rfl, by rw [← HX.out]; rfl, (below_two (hfin _ hbr1) _ _).drew⟩
              · obtain ⟨f1, f2⟩ := f
                rw [List.concat_eq_append] at *
                obtain ⟨m, hom⟩ : ∃ m, o.length = m := ⟨_, rfl⟩
                have hlen : (o ++ [(f1, f2)]).length = m + 1 := by simp [hom]
                obtain ⟨g, rfl⟩ := HAO.out (by omega)
                have HX0 : Hid (fieldsF (k + 1) (P.drop (k + 1)) (o ++ [(f1, trimW (f2 ++ 32 :: trimB l))]) = R) := by
                  rw [if_neg (by simp)] at hst2
                  unfold lastGrow at hst2
                  simp at hst2
                  show _ = _
                  simpa using hst2
                have hfb := HB.out (f1, f2) (by simp)
                simp only at hfb
                have hf2b : f2.length ≤ 81100000 := by omega
                have hjx : m * 2 + 1 < (o ++ [(f1, f2)]).length * 2 := by omega
                have hjc : (fldCells (o ++ [(f1, f2)]))[m * 2 + 1]? = some (.string ⟨f2.toArray⟩) := (fldCells_at _ m (f1, f2) (by rw [← hom]; simp)).2
                rw [hlen] at hown1 hol
                rw [hlen] at hjx
                have c4 := (hown1.cellAt (m * 2 + 1) hjx).trans hjc
                have f5 := hown1.frozenAt (m * 2 + 1)
                have cTq : ∀ W, Calls Tryz.prog 61 #[.string ⟨l.toArray⟩] W fun e w' => e = .returned (.string ⟨(trimB l).toArray⟩) ∧ w' = W := fun W => (rbare_any l W (by omega)).mono fun e w' h => ⟨h.1, h.2.symm⟩
                have htl : (trimB l).length ≤ l.length := trimS_len l _
                obtain ⟨X, hX⟩ : ∃ X, X = f2 ++ 32 :: trimB l := ⟨_, rfl⟩
                have ha1 : (⟨f2.toArray⟩ : ByteArray) ++ ⟨#[32]⟩ = ⟨(f2 ++ [32]).toArray⟩ := text_cat _ _
                have ha2 : (⟨(f2 ++ [32]).toArray⟩ : ByteArray) ++ ⟨(trimB l).toArray⟩ = ⟨X.toArray⟩ := by rw [text_cat, hX]; simp
                have hs1 := text_size f2
                have hs2 := text_size (f2 ++ [32])
                have hs3 := text_size (trimB l)
                have hl2 : (f2 ++ [32]).length = f2.length + 1 := by simp
                have hXl : X.length = f2.length + 1 + (trimB l).length := by rw [hX]; simp; omega
                rw [← hX] at HX0
                have hnx : trimW X = trimW X := rfl
                generalize f2 ++ [32] = f3 at ha1 ha2 hs2 hl2
                have hw6 : IntKind.i64.wrap ((m : Int) + 1 - 1) = (m : Int) := by rw [IntWalk.i64_in _ (by omega)]; omega
                have hw7 : IntKind.i64.wrap (m : Int) = (m : Int) := IntWalk.i64_in _ (by omega)
                have hm0 : (0 : Int) ≤ (m : Int) := by omega
                have hm1 : (m : Int) < (m : Int) + 1 := by omega
                clear hst2 hX hnx
                go_wp2_with (first
                  | (go_at_call 60; with_reducible refine (cB _).mono ?_; rintro e w3 ⟨rfl, hw⟩; rw [← hw]; clear hw))
                go_quiet ((go_at_call 61; refine Calls.quiet_of_same (cTq _)))
                have hz : Below wq.heap.size wq (wq.drewN nq) := ⟨rfl, rfl, rfl, Nat.le_refl _, fun _ _ => rfl⟩
                have hown2 := owns_below hown1 hz
                have hbr2 := hbr1.trans (hz.mono hbr1.size)
                clear hw6 hw7 c4 f5 ha1 ha2 hs1 hs2 hs3 hl2 cTq cB hz
                go_wp2_with fail
                generalize wq.drewN nq = wz at hown2 hbr2
                go_loopg [11] X.length (fun g s11 wp => ∃ (U : List UInt8), U.length = g ∧ s11 = .string ⟨U.toArray⟩ ∧ U.length ≤ X.length ∧ wz = wp ∧ Hid (trimW U = trimW X))
                case atStart => exact ⟨X, rfl, rfl, Nat.le_refl _, rfl, rfl⟩
                case round =>
                  obtain ⟨U, hkU, rfl, hUl, rfl, HU⟩ := hrel
                  have hts2 := text_size U
                  by_cases hgo : ∃ r, U = 32 :: r
                  · obtain ⟨r, rfl⟩ := hgo
                    have HX : Hid (trimW r = trimW X) := (trimS_cons 32 r [32] (by decide)).symm.trans HU.out
                    have hemp3 := w_empty (32 :: r)
                    rw [List.isEmpty_cons] at hemp3
                    have hlen3 : ((32 : UInt8) :: r).length = r.length + 1 := rfl
                    have hget3 : ∀ h, (⟨((32 : UInt8) :: r).toArray⟩ : ByteArray)[0]'h = 32 := fun h => rfl
                    obtain ⟨g2, rfl⟩ : ∃ g2, gk = g2 + 1 := ⟨gk - 1, by omega⟩
                    have hpt3 : (⟨((32 : UInt8) :: r).toArray⟩ : ByteArray).extract 1 (r.length + 1) = ⟨r.toArray⟩ := by rw [text_part]; simp
                    go_wp2_with fail
                    go_roundg g2
                    case measure => omega
                    case rel => exact ⟨r, by omega, rfl, by omega, rfl, HX.out⟩
                  · have hcase : (U = [] ∧ U.isEmpty = true ∧ (⟨U.toArray⟩ : ByteArray).toList.isEmpty = true) ∨ (∃ c, (∀ h, (⟨U.toArray⟩ : ByteArray)[0]'h = c) ∧ ((c.toNat : Int) == 32) = false ∧ 0 < U.length ∧ U.head? = some c ∧ U.isEmpty = false ∧ (⟨U.toArray⟩ : ByteArray).toList.isEmpty = false) := by
                      cases U with
                      | nil => exact Or.inl ⟨rfl, rfl, by rw [w_empty]; rfl⟩
                      | cons c r =>
                        refine Or.inr ⟨c, fun h => rfl, ?_, by simp, rfl, rfl, by rw [w_empty]; rfl⟩
                        have hcn : c ≠ 32 := fun h => hgo ⟨r, by rw [h]⟩
                        have := beq_int c 32 (by decide)
                        have e3 : ((32 : Nat) : Int) = 32 := rfl
                        rw [e3] at this
                        rw [← this]
                        simpa using hcn
                    have H0 : Hid (∀ x, U.head? = some x → ([32] : List UInt8).contains x = false) := by
                      intro x hx
                      rcases hcase with ⟨h, _⟩ | ⟨c, _, hc, _, hh, _⟩
                      · rw [h] at hx; cases hx
                      · rw [hh] at hx
                        rw [← Option.some.inj hx]
                        have := beq_int c 32 (by decide)
                        have e3 : ((32 : Nat) : Int) = 32 := rfl
                        rw [e3, hc] at this
                        have h2 : (c == 32) = false := this
                        simp only [List.contains_cons, List.contains_nil, Bool.or_false]
                        exact h2
                    clear hgo
                    rcases hcase with ⟨_, e1, e2⟩ | ⟨c, e1, e2, e3, _, e4, e5⟩
                    all_goals
                      go_wp2_with fail
                      clear e1 e2 hts2 hkU
                      go_loopg [11] U.length (fun g s11 wp => ∃ (V : List UInt8), V.length = g ∧ s11 = .string ⟨V.toArray⟩ ∧ V.length ≤ X.length ∧ wz = wp ∧ Hid (trimW V = trimW X ∧ ∀ x, V.head? = some x → ([32] : List UInt8).contains x = false))
                      case atStart => exact ⟨U, rfl, rfl, hUl, rfl, HU.out, H0.out⟩
                      case round =>
                        obtain ⟨V, hkV, rfl, hVl, rfl, HV⟩ := hrel
                        clear HU H0
                        have hts3 := text_size V
                        by_cases hgo : ∃ t, V = t ++ [32]
                        · obtain ⟨t, rfl⟩ := hgo
                          have hemp4 : (⟨(t ++ [32]).toArray⟩ : ByteArray).toList.isEmpty = false := by rw [w_empty]; simp
                          have hemp5 : (t ++ [(32 : UInt8)]).isEmpty = false := by simp
                          have hlen4 : (t ++ [(32 : UInt8)]).length = t.length + 1 := by simp
                          rw [hlen4] at hts3
                          have hget4 : ∀ h, (⟨(t ++ [32]).toArray⟩ : ByteArray)[t.length]'h = 32 := fun h => by
                            show (t ++ [32])[t.length]'(by simp) = 32
                            simp
                          have hpt4 : (⟨(t ++ [32]).toArray⟩ : ByteArray).extract 0 t.length = ⟨t.toArray⟩ := by rw [text_part]; simp
                          have ht0 : Hid (trimW t = trimW X ∧ ∀ x, t.head? = some x → ([32] : List UInt8).contains x = false) := by
                            refine ⟨(trimS_snoc 32 t [32] (by decide)).symm.trans HV.out.1, fun x hx => HV.out.2 x ?_⟩
                            cases t with
                            | nil => simp at hx
                            | cons a t => simpa using hx
                          obtain ⟨g2, rfl⟩ : ∃ g2, gk = g2 + 1 := ⟨gk - 1, by omega⟩
                          clear HV
                          go_wp2_with fail
                          go_roundg g2
                          case measure => omega
                          case rel => exact ⟨t, by omega, rfl, by omega, rfl, ht0.out⟩
                        · have hVX : V = trimW X := by
                            rw [← HV.out.1]
                            refine (trimS_id V _ HV.out.2 ?_).symm
                            intro x hx
                            obtain ⟨t, rfl⟩ := List.getLast?_eq_some_iff.1 hx
                            simp only [List.contains_cons, List.contains_nil, Bool.or_false]
                            have : x ≠ 32 := fun h => hgo ⟨t, by rw [h]⟩
                            simpa using this
                          have hcase : (V.isEmpty = true ∧ (⟨V.toArray⟩ : ByteArray).toList.isEmpty = true) ∨ (∃ t d, V = t ++ [d] ∧ ((d.toNat : Int) == 32) = false) := by
                            rcases List.eq_nil_or_concat V with rfl | ⟨t, d, rfl⟩
                            · exact Or.inl ⟨rfl, by rw [w_empty]; rfl⟩
                            · rw [List.concat_eq_append] at *
                              refine Or.inr ⟨t, d, rfl, ?_⟩
                              have hcn : d ≠ 32 := fun h => hgo ⟨t, by rw [h]⟩
                              have := beq_int d 32 (by decide)
                              have e3 : ((32 : Nat) : Int) = 32 := rfl
                              rw [e3] at this
                              rw [← this]
                              simpa using hcn
                          have hgb : w2.heap.size ≤ g := (hown2.lt g rfl).1
                          have f6 := hown2.frozenAt (m * 2 + 1)
                          have c6 := (hown2.cellAt (m * 2 + 1) hjx).trans hjc
                          have y6 := hbr2.setCell (p := ⟨g, m * 2 + 1, none⟩) hgb (.string ⟨V.toArray⟩)
                          have o6 := (hown2.stored (m * 2 + 1) (.string ⟨V.toArray⟩)).1
                          rw [← hom, fldCells_set] at o6
                          have HXV : Hid (fieldsF (k + 1) (P.drop (k + 1)) (o ++ [(f1, V)]) = R) := by rw [hVX]; exact HX0
                          have hVb : V.length ≤ 9001 * (k + 1) := by omega
                          clear hgo HV hVX
                          have hfin2 : ∃ (kk : Nat) (out : List Fld), kk + g' = P.length ∧ Value.int .i64 ((k : Int) + 1) = .int .i64 kk ∧ out.length ≤ 40 ∧ Hid (Bnd out 9000 (9001 * kk)) ∧
                              (wz.setCell ⟨g, m * 2 + 1, none⟩ (.string ⟨V.toArray⟩)).ownsRow w2.heap.size 74 2 (.slice (some ⟨g, 0, none⟩) (m + 1) cap) out.length (fldCells out) ∧ Below w2.heap.size w2 (wz.setCell ⟨g, m * 2 + 1, none⟩ (.string ⟨V.toArray⟩)) ∧ Hid (fieldsF kk (P.drop kk) out = R) := by
                            refine ⟨k + 1, o ++ [(f1, V)], by omega, by simp, by simp; omega, ?_, by simpa [hom] using o6, y6, HXV.out⟩
                            intro f hf
                            rw [List.mem_append] at hf
                            rcases hf with hf | hf
                            · have := HB.out f (List.mem_append_left _ hf)
                              exact ⟨this.1, by omega⟩
                            · simp at hf; rw [hf]
                              exact ⟨hfb.1, hVb⟩
                          have HFIN := Lib.hid hfin2
                          clear hfin2 o6 y6 HXV hVb
                          rcases hcase with ⟨a1, a2⟩ | ⟨t, d, rfl, a2⟩
                          · go_wp2_with fail
                            go_roundg g'
                            case measure => omega
                            case rel => exact HFIN.out
                          · have hemp4 : (⟨(t ++ [d]).toArray⟩ : ByteArray).toList.isEmpty = false := by rw [w_empty]; simp
                            have hemp5 : (t ++ [d]).isEmpty = false := by simp
                            have hlen4 : (t ++ [d]).length = t.length + 1 := by simp
                            rw [hlen4] at hts3
                            have hget4 : ∀ h, (⟨(t ++ [d]).toArray⟩ : ByteArray)[t.length]'h = d := fun h => by
                              show (t ++ [d])[t.length]'(by simp) = d
                              simp
                            go_wp2_with fail
                            go_roundg g'
                            case measure => omega
                            case rel => exact HFIN.out
    · have HX : Hid (.inr out = R) := by
        have := Hf.out
        rw [List.drop_eq_nil_of_le (by omega)] at this
        exact this
      have hkl : k ≤ 9002 := by omega
      have hFr := hF2.below hbr
      have hg1 := hFr.1
      have hg2 := hFr.2
      have hU : wr.heap[w.heap.size]? = some (.cells #[.int .i64 0, .int .i64 0] 50 (0, 0)) := below_same hbr hU2
      have fU := Lib.frozen_of_heap hU
      have u0 := (two_cells hU).1
      have u1 := (two_cells hU).2
      go_wp2_with fail
      go_region
      go_wp2_with fail
      refine bodyPost_ret (results_tmp_row (P := Tryz.prog) rfl _ _ w.heap.size _ _ _ _ rfl (set_two_drew hU _ _) Tryz.underlying50 rfl fault_info) rfl ?_
      refine ⟨_, rfl, ?_, (below_two (hfin _ hbr) _ _).drew⟩
      rw [← HX.out]
      refine ⟨ao, cap, rfl, fldRow_of_owns (owns_two hown hU (by decide) _ _).drew, by omega, ?_⟩
      intro f hf
      have := HB.out f hf
      exact ⟨by omega, by omega⟩
end Go.Proofs.YtcahhnjponeeeaaGreatDoor
