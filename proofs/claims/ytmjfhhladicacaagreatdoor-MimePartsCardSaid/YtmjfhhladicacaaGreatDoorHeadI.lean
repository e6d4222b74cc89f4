/- The walks over the reference's small functions for heads: in, blank, bare, Split, Small, Great. Condition: bytealg.MaxLen lies (Split). -/
import Derived.Test.YtmjfhhladicacaaGreatDoorHeadG
import Derived.Test.YtmjfhhladicacaaGreatDoorPHead4
namespace Go.Proofs.YtmjfhhladicacaaGreatDoor
open Go.RowKit Go.Shelf

set_option maxHeartbeats 400000 in
theorem rin_any (n lo hi : Int) (w : World) :
    Calls Tryz.prog 16 #[.int .i64 n, .int .i64 lo, .int .i64 hi] w fun e w' => e = .returned (.bool (decide (lo ≤ n) && decide (n ≤ hi))) ∧ w = w' := by
  by_cases h1 : lo ≤ n
  · by_cases h2 : n ≤ hi
    · simp only [h1, h2, decide_true, Bool.and_self]
      go_enter Tryz.func16, Tryz.ntmps16
      go_wp2_with fail
      go_ret
      exact ⟨rfl, rfl⟩
    · simp only [h1, h2, decide_true, decide_false, Bool.and_false]
      go_enter Tryz.func16, Tryz.ntmps16
      go_wp2_with fail
      go_ret
      exact ⟨rfl, rfl⟩
  · simp only [h1, decide_false, Bool.false_and]
    go_enter Tryz.func16, Tryz.ntmps16
    go_wp2_with fail
    go_ret
    exact ⟨rfl, rfl⟩
theorem byte_eqn (c : UInt8) (n : Nat) (hn : n < 256) : ((c.toNat : Int) == (n : Int)) = decide (c = UInt8.ofNat n) := by
  by_cases h : c = UInt8.ofNat n
  · rw [decide_eq_true h, h, beq_iff_eq]
    have : (UInt8.ofNat n).toNat = n := by simp; omega
    rw [this]
  · rw [decide_eq_false h, beq_eq_false_iff_ne]
    intro h2
    have h3 : c.toNat = n := by omega
    exact h (by rw [← h3]; simp)
theorem blank_split (c : UInt8) : blankC c = (((c.toNat : Int) == 32) || ((c.toNat : Int) == 9)) := by
  have e1 := byte_eqn c 32 (by decide)
  have e2 := byte_eqn c 9 (by decide)
  have e3 : ((32 : Nat) : Int) = 32 := rfl
  have e4 : ((9 : Nat) : Int) = 9 := rfl
  rw [e3] at e1; rw [e4] at e2
  rw [e1, e2]
  unfold blankC
  by_cases h : c = 32
  · subst h; rfl
  · by_cases h2 : c = 9
    · subst h2; rfl
    · have a1 : (c == 32) = false := by simpa using h
      have a2 : (c == 9) = false := by simpa using h2
      rw [a1, a2]
      have b1 : c ≠ UInt8.ofNat 32 := h
      have b2 : c ≠ UInt8.ofNat 9 := h2
      rw [decide_eq_false b1, decide_eq_false b2]
set_option maxHeartbeats 400000 in
theorem rblank_any (c : UInt8) (C : Int) (hC : (c.toNat : Int) = C) (w : World) :
    Calls Tryz.prog 25 #[.int .u8 C] w fun e w' => e = .returned (.bool (blankC c)) ∧ w = w' := by
  rw [blank_split c, hC]
  have hcl := c.toNat_lt
  have h0 : 0 ≤ C := by omega
  have h1 : C < 256 := by omega
  clear hC hcl
  cases e1 : (C == 32)
  · cases e2 : (C == 9)
    · go_enter Tryz.func25, Tryz.ntmps25
      go_wp2_with fail
      go_ret
      exact ⟨rfl, rfl⟩
    · go_enter Tryz.func25, Tryz.ntmps25
      go_wp2_with fail
      go_ret
      exact ⟨rfl, rfl⟩
  · go_enter Tryz.func25, Tryz.ntmps25
    go_wp2_with fail
    go_ret
    exact ⟨rfl, rfl⟩
theorem byte_text (W : World) (x : UInt8) : (convert 54 9 (.slice (some ⟨W.heap.size, 0, none⟩) 1 1)).run Tryz.prog (W.alloc (.cells #[.int .u8 (x.toNat : Int)] 5)) = .ok (.string ⟨#[x]⟩) (W.alloc (.cells #[.int .u8 (x.toNat : Int)] 5)) :=
  run_bytes_text (l := [x]) (Or.inr ⟨W.heap.size, 0, 1, rfl, by simp, by
    intro j u hj
    match j, hj with
    | 0, hj => simp [Lib.byteCells] at hj; subst hj; simp⟩) _ _ 5 Tryz.underlying54 Tryz.underlying5 Tryz.underlying9
theorem w_empty (l : List UInt8) : (⟨l.toArray⟩ : ByteArray).toList.isEmpty = l.isEmpty := by rw [Lib.toList_data]

set_option maxRecDepth 100000 in
set_option maxHeartbeats 4000000 in
theorem rbare_any (S : List UInt8) (w : World) (hs : S.length ≤ 1000000000) :
    Calls Tryz.prog 38 #[.string ⟨S.toArray⟩] w fun e w' => e = .returned (.string ⟨(trimB S).toArray⟩) ∧ w = w' := by
  go_enter Tryz.func38, Tryz.ntmps38
  go_wp2_with fail
  go_loopg [0] S.length (fun g s0 wr => ∃ (U : List UInt8), U.length = g ∧ s0 = .string ⟨U.toArray⟩ ∧ U.length ≤ S.length ∧ w = wr ∧ Hid (trimB U = trimB S))
  case atStart => exact ⟨S, rfl, rfl, Nat.le_refl _, rfl, rfl⟩
  case round =>
    obtain ⟨U, hk, rfl, hUl, rfl, Hf⟩ := hrel
    have hts := text_size U
    cases U with
    | nil =>
      have hres : trimB S = [] := by rw [← Hf.out]; rfl
      have HX := Lib.hid hres
      clear Hf hres
      go_wp2_with fail
      go_loopg [0] 0 (fun g s0 wr => s0 = .string ⟨#[]⟩ ∧ w = wr)
      case atStart => exact ⟨rfl, rfl⟩
      case round =>
        obtain ⟨rfl, rfl⟩ := hrel
        go_wp2_with fail
        go_ret
        exact ⟨(by have h := HX.out; rw [h]; first | done | rfl), rfl⟩
    | cons c r =>
      have hemp := w_empty (c :: r)
      rw [List.isEmpty_cons] at hemp
      have hlen : (c :: r).length = r.length + 1 := rfl
      have hget : ∀ h, (⟨(c :: r).toArray⟩ : ByteArray)[0]'h = c := fun h => rfl
      have cB := fun W => rblank_any c _ rfl W
      by_cases hb : blankC c = true
      · have HX : Hid (trimB r = trimB S) := (trimS_cons c r [32, 9] (by unfold blankC at hb; simpa using hb)).symm.trans Hf.out
        obtain ⟨g', rfl⟩ : ∃ g', gk = g' + 1 := ⟨gk - 1, by omega⟩
        rw [hb] at cB
        have hpt : (⟨(c :: r).toArray⟩ : ByteArray).extract 1 (r.length + 1) = ⟨r.toArray⟩ := by rw [text_part]; simp
        clear hb Hf
        go_wp2_with (go_at_call 25; with_reducible refine (cB _).mono ?_; rintro e w1 ⟨rfl, hw⟩; rw [← hw]; clear hw)
        go_roundg g'
        case measure => omega
        case rel => exact ⟨r, by omega, rfl, by omega, rfl, HX.out⟩
      · have hbf : blankC c = false := by simpa using hb
        have H0 : Hid (∀ x, (c :: r).head? = some x → [32, 9].contains x = false) := by
          intro x hx
          simp at hx
          rw [← hx]
          unfold blankC at hbf
          simpa using hbf
        rw [hbf] at cB
        clear hb hbf
        go_wp2_with (go_at_call 25; with_reducible refine (cB _).mono ?_; rintro e w1 ⟨rfl, hw⟩; rw [← hw]; clear hw)
        clear cB hget hlen hemp hts hk
        generalize c :: r = U at Hf H0 hUl
        go_loopg [0] U.length (fun g s0 wr => ∃ (V : List UInt8), V.length = g ∧ s0 = .string ⟨V.toArray⟩ ∧ V.length ≤ S.length ∧ w = wr ∧ Hid (trimB V = trimB S ∧ ∀ x, V.head? = some x → [32, 9].contains x = false))
        case atStart => exact ⟨U, rfl, rfl, hUl, rfl, Hf.out, H0.out⟩
        case round =>
          obtain ⟨V, hk, rfl, hVl, rfl, Hg⟩ := hrel
          clear Hf H0
          rcases List.eq_nil_or_concat V with rfl | ⟨t, d, rfl⟩
          · have hres : trimB S = [] := by rw [← Hg.out.1]; rfl
            have HX := Lib.hid hres
            clear Hg hres
            go_wp2_with fail
            go_ret
            exact ⟨(by have h := HX.out; rw [h]; first | done | rfl), rfl⟩
          · rw [List.concat_eq_append] at *
            have hemp : (⟨(t ++ [d]).toArray⟩ : ByteArray).toList.isEmpty = false := by rw [w_empty]; simp
            have hemp2 : (t ++ [d]).isEmpty = false := by simp
            have hlen : (t ++ [d]).length = t.length + 1 := by simp
            have hts := text_size (t ++ [d])
            rw [hlen] at hts
            have hget : ∀ h, (⟨(t ++ [d]).toArray⟩ : ByteArray)[t.length]'h = d := fun h => by
              show (t ++ [d])[t.length]'(by simp) = d
              simp
            have hpt : (⟨(t ++ [d]).toArray⟩ : ByteArray).extract 0 t.length = ⟨t.toArray⟩ := by rw [text_part]; simp
            have cB := fun W => rblank_any d _ rfl W
            have ht0 : ∀ x, t.head? = some x → [32, 9].contains x = false := by
              intro x hx
              refine Hg.out.2 x ?_
              cases t with
              | nil => simp at hx
              | cons a t => simpa using hx
            by_cases hb : blankC d = true
            · have HX : Hid (trimB t = trimB S) := (trimS_snoc d t [32, 9] (by unfold blankC at hb; simpa using hb)).symm.trans Hg.out.1
              obtain ⟨g', rfl⟩ : ∃ g', gk = g' + 1 := ⟨gk - 1, by omega⟩
              rw [hb] at cB
              have H0 := Lib.hid ht0
              clear hb Hg ht0
              go_wp2_with (go_at_call 25; with_reducible refine (cB _).mono ?_; rintro e w1 ⟨rfl, hw⟩; rw [← hw]; clear hw)
              go_roundg g'
              case measure => omega
              case rel => exact ⟨t, by omega, rfl, by omega, rfl, HX.out, H0.out⟩
            · have hbf : blankC d = false := by simpa using hb
              have hres : trimB S = t ++ [d] := by
                rw [← Hg.out.1]
                refine trimS_id _ _ Hg.out.2 ?_
                intro x hx
                simp at hx
                rw [← hx]
                unfold blankC at hbf
                simpa using hbf
              have HX := Lib.hid hres
              rw [hbf] at cB
              clear hb hbf Hg ht0 hres
              go_wp2_with (go_at_call 25; with_reducible refine (cB _).mono ?_; rintro e w1 ⟨rfl, hw⟩; rw [← hw]; clear hw)
              go_ret
              exact ⟨(by have h := HX.out; rw [h]; first | done | rfl), rfl⟩

set_option maxRecDepth 100000 in
set_option maxHeartbeats 4000000 in
theorem rsplit_any (S : List UInt8) (w : World) (hs : S.length ≤ 1000000000) (hM : MaxL w) :
    Calls Tryz.prog 22 #[.string ⟨S.toArray⟩] w fun e w' => e = .returned (.tuple #[.string ⟨(splitHd S).1.toArray⟩, .string ⟨(splitHd S).2.toArray⟩]) ∧ Below w.heap.size w w' := by
  obtain ⟨m, hm⟩ := hM
  have hts := text_size S
  have HI : Hid (∀ a, Calls Tryz.prog 24 #[.string ⟨(S.drop a).toArray⟩, .string ⟨#[13, 10]⟩] w fun e w' => e = .returned (.int .i64 (Lib.index (S.drop a) [13, 10])) ∧ w' = w) := fun a =>
    Tryz.strings_Index ⟨(S.drop a).toArray⟩ ⟨#[13, 10]⟩ m w (by rw [text_size]; simp; omega) hm
  go_enter Tryz.func22, Tryz.ntmps22
  go_wp2_with fail
  go_loopg [4] S.length (fun g s4 wr => ∃ (a : Nat), a + g = S.length ∧ s4 = .int .i64 a ∧ w = wr ∧ Hid (splFrom S a = splitHd S))
  case atStart => exact ⟨0, by omega, rfl, rfl, splFrom_zero S⟩
  case round =>
    obtain ⟨a, ha, rfl, rfl, Hf⟩ := hrel
    by_cases hlt : a < S.length
    · have cA := HI.out a
      have hpt : (⟨S.toArray⟩ : ByteArray).extract a S.length = ⟨(S.drop a).toArray⟩ := by rw [text_part, List.take_of_length_le (by simp)]
      rw [← hpt] at cA
      have hroom := Lib.index_room (S.drop a) [13, 10]
      have hge := Lib.index_ge (S.drop a) [13, 10]
      obtain ⟨I, hI⟩ : ∃ I, Lib.index (S.drop a) [13, 10] = I := ⟨_, rfl⟩
      rw [hI] at cA hroom hge
      clear hpt
      by_cases h0 : I < 0
      · have hR : splitHd S = (S, []) := by rw [← Hf.out]; exact splFrom_none (by rw [hI]; exact h0)
        have HX := Lib.hid hR
        clear hR Hf hI hroom hge
        go_wp2_with (go_at_call 24; with_reducible refine cA.mono ?_; rintro e w1 ⟨rfl, hw⟩; rw [hw]; clear hw)
        go_ret2
        exact ⟨(by have h := HX.out; rw [h]; first | done | rfl), Below.refl _ _⟩
      · obtain ⟨i, rfl⟩ := Int.eq_ofNat_of_zero_le (show 0 ≤ I by omega)
        have hr2 : a + i + 2 ≤ S.length := by have := hroom (by omega); simp at this; omega
        have hw1 : IntKind.i64.wrap ((i : Int) + 2) = (i : Int) + 2 := IntWalk.i64_in _ (by omega)
        have hw2 : IntKind.i64.wrap ((a : Int) + ((i : Int) + 2)) = ((a + i + 2 : Nat) : Int) := by rw [IntWalk.i64_in _ (by omega)]; omega
        cases i with
        | zero =>
          have hR : splitHd S = (S.take (a + 2), S.drop (a + 2)) := by rw [← Hf.out]; exact splFrom_here hI
          have HX := Lib.hid hR
          have hx1 : (⟨S.toArray⟩ : ByteArray).extract 0 (a + 2) = ⟨(S.take (a + 2)).toArray⟩ := by rw [text_part]; simp
          have hx2 : (⟨S.toArray⟩ : ByteArray).extract (a + 2) S.length = ⟨(S.drop (a + 2)).toArray⟩ := by rw [text_part]; congr 2; rw [List.take_of_length_le (by simp)]
          clear hR Hf hI hroom hge h0
          go_wp2_with (go_at_call 24; with_reducible refine cA.mono ?_; rintro e w1 ⟨rfl, hw⟩; rw [hw]; clear hw)
          go_region
          go_wp2_with fail
          go_ret2
          exact ⟨(by have h := HX.out; rw [h]; show Ending.returned (.tuple #[.string _, .string _]) = _; rw [hx1, hx2]), (Below.refl _ _).drew⟩
        | succ j =>
          have HX : Hid (splFrom S (a + (j + 1) + 2) = splitHd S) := (splFrom_step hI (by omega)).symm.trans Hf.out
          clear Hf hI hroom hge h0
          go_wp2_with (go_at_call 24; with_reducible refine cA.mono ?_; rintro e w1 ⟨rfl, hw⟩; rw [hw]; clear hw)
          go_roundg (S.length - (a + (j + 1) + 2))
          case measure => omega
          case rel => exact ⟨a + (j + 1) + 2, by omega, by go_num, rfl, HX.out⟩
    · have hR : splitHd S = (S, []) := by
        rw [← Hf.out]
        refine splFrom_none ?_
        rw [List.drop_eq_nil_of_le (by omega)]; decide
      have HX := Lib.hid hR
      clear hR Hf
      go_wp2_with fail
      go_ret2
      exact ⟨(by have h := HX.out; rw [h]; first | done | rfl), Below.refl _ _⟩

set_option maxRecDepth 100000 in
set_option maxHeartbeats 2000000 in
theorem rsmall_any (S : List UInt8) (w : World) (hs : S.length ≤ 1000000000) :
    Calls Tryz.prog 37 #[.string ⟨S.toArray⟩] w fun e w' => e = .returned (.string ⟨(smallL S).toArray⟩) ∧ Below w.heap.size w w' := by
  have hts := text_size S
  go_enter Tryz.func37, Tryz.ntmps37
  go_wp2_with fail
  go_loopg [3, 8] S.length (fun g s3 s8 wr => ∃ (k : Nat) (U : List UInt8), k + g = S.length ∧ s8 = .int .i64 k ∧ s3 = .string ⟨U.toArray⟩ ∧ U.length = k ∧ Below w.heap.size w wr ∧ Hid (U = (S.take k).map smallC))
  case atStart => exact ⟨0, [], by omega, rfl, rfl, rfl, Below.refl _ _, by show _ = _; simp⟩
  case round =>
    obtain ⟨k, U, hk, rfl, rfl, hU, hbr, Hf⟩ := hrel
    by_cases hlt : k < S.length
    · obtain ⟨g', rfl⟩ : ∃ g', gk = g' + 1 := ⟨gk - 1, by omega⟩
      obtain ⟨c, hc⟩ : ∃ c, S[k] = c := ⟨_, rfl⟩
      have hget : ∀ h, (⟨S.toArray⟩ : ByteArray)[k]'h = c := fun h => hc
      have hcl := c.toNat_lt
      have hstep : (S.take (k + 1)).map smallC = U ++ [smallC c] := by
        rw [List.take_add_one, List.getElem?_eq_getElem hlt, hc, List.map_append, ← Hf.out]; rfl
      have hts2 := text_size U
      have hcat := text_cat U [smallC c]
      have ec := fun W => byte_text W (smallC c)
      by_cases hA : 65 ≤ c.toNat ∧ c.toNat ≤ 90
      · have hf : smallC c = c + 32 := by unfold smallC; rw [if_pos hA]
        have hfn : (smallC c).toNat = c.toNat + 32 := by rw [hf, UInt8.toNat_add]; show (c.toNat + 32) % 256 = _; omega
        have hfi : ((smallC c).toNat : Int) = (c.toNat : Int) + 32 := by omega
        generalize smallC c = d at hstep hcat ec hf hfn hfi
        simp only [hfi] at ec
        obtain ⟨C, hC⟩ : ∃ C : Int, (c.toNat : Int) = C := ⟨_, rfl⟩
        rw [hC] at ec
        have hget2 : ∀ h, (((⟨S.toArray⟩ : ByteArray)[k]'h).toNat : Int) = C := fun h => by rw [hget h]; exact hC
        have h1 : 65 ≤ C := by omega
        have h2 : C ≤ 90 := by omega
        have HX : Hid ((S.take (k + 1)).map smallC = U ++ [d]) := hstep
        have ecw := ec wr
        clear hc hfn hf hA hC hcl hfi hget hstep ec
        go_wp2_with fail
        go_roundg g'
        case measure => omega
        case rel => exact ⟨k + 1, U ++ [d], by omega, by go_num, rfl, by simp; omega, hbr.alloc hbr.size _, HX.out.symm⟩
      · have hf : smallC c = c := by unfold smallC; rw [if_neg hA]
        rw [hf] at hstep hcat ec
        obtain ⟨C, hC⟩ : ∃ C : Int, (c.toNat : Int) = C := ⟨_, rfl⟩
        rw [hC] at ec
        have hget2 : ∀ h, (((⟨S.toArray⟩ : ByteArray)[k]'h).toNat : Int) = C := fun h => by rw [hget h]; exact hC
        have h12 : C < 65 ∨ 90 < C := by omega
        have HX : Hid ((S.take (k + 1)).map smallC = U ++ [c]) := hstep
        have ecw := ec wr
        have hc0 : 0 ≤ C := by omega
        have hc1 : C < 256 := by omega
        clear hc hf hA hC hcl hget hstep ec
        rcases h12 with h12 | h12
        · go_wp2_with fail
          go_roundg g'
          case measure => omega
          case rel => exact ⟨k + 1, U ++ [c], by omega, by go_num, rfl, by simp; omega, hbr.alloc hbr.size _, HX.out.symm⟩
        · have h65 : 65 ≤ C := by omega
          go_wp2_with fail
          go_roundg g'
          case measure => omega
          case rel => exact ⟨k + 1, U ++ [c], by omega, by go_num, rfl, by simp; omega, hbr.alloc hbr.size _, HX.out.symm⟩
    · have hres : U = smallL S := by rw [Hf.out, List.take_of_length_le (by omega)]; rfl
      clear Hf
      subst hres
      go_wp2_with fail
      go_ret
      exact ⟨rfl, hbr⟩

end Go.Proofs.YtmjfhhladicacaaGreatDoor
