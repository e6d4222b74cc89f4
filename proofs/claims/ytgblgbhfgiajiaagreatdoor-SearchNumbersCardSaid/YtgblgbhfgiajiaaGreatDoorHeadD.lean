/- The walks over head.name, head.Split, and strings.Trim, strings.Split as the heads' code meets them. Condition: bytealg.MaxLen lies (where a text is looked for in another). -/
import Derived.Test.YtgblgbhfgiajiaaGreatDoorHeadC
import Derived.Test.YtgblgbhfgiajiaaGreatDoorAny
import Derived.Shelf.Strings.SlTrimAscii
import Derived.Lib.CutLaws
import Derived.IntWalk
namespace Go.Proofs.YtgblgbhfgiajiaaGreatDoor
open Go.RowKit Go.Shelf

def MaxL (w : World) : Prop := ∃ m, w.cell? ⟨0, 0, none⟩ = some (.int .i64 m)
theorem MaxL.below {w w' : World} (h : MaxL w) (hb : Below w.heap.size w w') : MaxL w' := by
  obtain ⟨m, hm⟩ := h
  refine ⟨m, (hb.cell (p := ⟨_, 0, none⟩) ?_).trans hm⟩
  rcases Nat.lt_or_ge 0 w.heap.size with h' | h'
  · exact h'
  · simp [World.cell?, Array.getElem?_eq_none h'] at hm

theorem trim_two (l : List UInt8) (W : World) (hs : l.length ≤ 9223372036854775807) :
    Calls Tryz.prog 39 #[.string ⟨l.toArray⟩, .string ⟨#[32, 9]⟩] W fun e w' => e = .returned (.string ⟨(trimB l).toArray⟩) ∧ Below W.heap.size W w' :=
  Any.strings_Trim_laid Tryz.lays160 zero92 ⟨l.toArray⟩ ⟨#[32, 9]⟩ W (by rw [text_size]; exact hs) (by decide) (ascii_of_all (by decide))
theorem trim_one (l : List UInt8) (W : World) (hs : l.length ≤ 9223372036854775807) :
    Calls Tryz.prog 39 #[.string ⟨l.toArray⟩, .string ⟨#[32]⟩] W fun e w' => e = .returned (.string ⟨(trimW l).toArray⟩) ∧ Below W.heap.size W w' :=
  Any.strings_Trim_laid Tryz.lays160 zero92 ⟨l.toArray⟩ ⟨#[32]⟩ W (by rw [text_size]; exact hs) (by decide) (ascii_of_all (by decide))
theorem cut_l (l : List UInt8) (c : UInt8) (W : World) (hs : l.length ≤ 1000000000) (hM : MaxL W) :
    Calls Tryz.prog 41 #[.string ⟨l.toArray⟩, .string ⟨#[c]⟩] W fun e w' => e = .returned (.tuple #[.string ⟨(Lib.cut l [c]).1.toArray⟩, .string ⟨(Lib.cut l [c]).2.1.toArray⟩, .bool (Lib.cut l [c]).2.2]) ∧ Below W.heap.size W w' := by
  obtain ⟨m, hm⟩ := hM
  refine (Tryz.strings_Cut ⟨l.toArray⟩ ⟨#[c]⟩ m W (by rw [text_size]; omega) hm).mono ?_
  rintro e w' ⟨h1, n, rfl⟩
  exact ⟨h1, ⟨rfl, rfl, rfl, Nat.le_refl _, fun _ _ => rfl⟩⟩
/-- strings.Split: the pieces, in a new block -/
theorem split_l (l sep : List UInt8) (W : World) (hs : l.length ≤ 1000000000) (hsep : 1 ≤ sep.length) (hM : MaxL W) :
    Calls Tryz.prog 38 #[.string ⟨l.toArray⟩, .string ⟨sep.toArray⟩] W fun e w' => e = .returned (.slice (some ⟨W.heap.size, 0, none⟩) (Lib.split l sep).length (Lib.split l sep).length) ∧
      (∀ (j : Nat) p, (Lib.split l sep)[j]? = some p → w'.cell? ⟨W.heap.size, j, none⟩ = some (.string ⟨p.toArray⟩)) ∧ W.heap.size < w'.heap.size ∧ Below W.heap.size W w' := by
  obtain ⟨m, hm⟩ := hM
  refine (Tryz.strings_Split ⟨l.toArray⟩ ⟨sep.toArray⟩ m W (by rw [text_size]; omega) hm (by rw [text_size]; exact hsep)).mono ?_
  have hd : (Lib.splitB ⟨sep.toArray⟩ 0 (Lib.countB ⟨l.toArray⟩ ⟨sep.toArray⟩) ⟨l.toArray⟩).map (·.data.toList) = Lib.split l sep := Lib.splitB_data _ _ _ _
  have hn : Lib.countB ⟨l.toArray⟩ ⟨sep.toArray⟩ + 1 = (Lib.split l sep).length := by
    rw [← hd, List.length_map, Lib.splitB_all _ (by rw [text_size]; exact hsep) 0 _ _ rfl]
  rintro e w' ⟨rfl, rfl⟩
  refine ⟨by rw [hn], ?_, by simp, (Below.refl _ _).alloc (Nat.le_refl _) _⟩
  intro j p hj
  rw [← hd, List.getElem?_map] at hj
  obtain ⟨x, hx, rfl⟩ := Option.map_eq_some_iff.1 hj
  rw [World.cell?_alloc_at _ _ _ _ rfl, List.getElem?_toArray, List.getElem?_map, hx]
  rfl

set_option maxRecDepth 100000 in
set_option maxHeartbeats 2000000 in
theorem name_any (S : List UInt8) (w : World) (hs : S.length ≤ 1000000000) :
    Calls Tryz.prog 42 #[.string ⟨S.toArray⟩] w fun e w' => e = .returned (.bool (nameL S)) ∧ w = w' := by
  have hts := text_size S
  go_enter Tryz.func42, Tryz.ntmps42
  go_wp2_with fail
  go_loopg [6] S.length (fun g s6 wr => ∃ (k : Nat), k + g = S.length ∧ s6 = .int .i64 k ∧ w = wr ∧ Hid (nameL S = ((S.drop k).all nameC && (!S.isEmpty && decide (S.length ≤ 60)))))
  case atStart => exact ⟨0, by omega, by simp, rfl, by show _ = _; rfl⟩
  case round =>
    obtain ⟨k, hk, rfl, rfl, Hf⟩ := hrel
    by_cases hlt : k < S.length
    · obtain ⟨g', rfl⟩ : ∃ g', gk = g' + 1 := ⟨gk - 1, by omega⟩
      obtain ⟨c, hc⟩ : ∃ c, S[k] = c := ⟨_, rfl⟩
      have hget : ∀ h, (⟨S.toArray⟩ : ByteArray)[k]'h = c := fun h => hc
      have hf0 := Hf.out
      rw [List.drop_eq_getElem_cons hlt, hc, List.all_cons] at hf0
      have e3 : (c == 58) = ((c.toNat : Int) == 58) := by
        by_cases h : c = 58
        · subst h; rfl
        · rw [beq_eq_false_iff_ne.2 h, eq_comm, beq_eq_false_iff_ne]
          intro h2; exact h (UInt8.toNat_inj.1 (by show c.toNat = 58; omega))
      have hn : nameC c = (decide (33 ≤ c.toNat) && decide (c.toNat ≤ 126) && !((c.toNat : Int) == 58)) := by
        unfold nameC
        rw [← e3]; rfl
      by_cases h1 : (c.toNat : Int) < 33
      · have HN : Hid (nameL S = false) := by
          show _ = _
          rw [hf0, hn, show decide (33 ≤ c.toNat) = false by simp; omega]; rfl
        clear hf0 hn hc e3
        go_wp2_with fail
        go_ret
        exact ⟨by rw [HN.out]; rfl, rfl⟩
      · by_cases h2 : 126 < (c.toNat : Int)
        · have HN : Hid (nameL S = false) := by
            show _ = _
            rw [hf0, hn, show decide (c.toNat ≤ 126) = false by simp; omega, Bool.and_false]; rfl
          clear hf0 hn hc e3
          go_wp2_with fail
          go_ret
          exact ⟨by rw [HN.out]; rfl, rfl⟩
        · cases h3 : ((c.toNat : Int) == 58)
          · have HN : Hid (nameL S = ((S.drop (k + 1)).all nameC && (!S.isEmpty && decide (S.length ≤ 60)))) := by
              show _ = _
              rw [hf0, hn, h3, show decide (c.toNat ≤ 126) = true by simp; omega, show decide (33 ≤ c.toNat) = true by simp; omega]; rfl
            clear hf0 hn hc e3
            go_wp2_with fail
            go_roundg g'
            case measure => omega
            case rel => exact ⟨k + 1, by omega, by go_num, rfl, HN⟩
          · have HN : Hid (nameL S = false) := by
              show _ = _
              rw [hf0, hn, h3]; simp
            clear hf0 hn hc e3
            go_wp2_with fail
            go_ret
            exact ⟨by rw [HN.out]; rfl, rfl⟩
    · have hf0 := Hf.out
      rw [List.drop_eq_nil_of_le (by omega), List.all_nil, Bool.true_and] at hf0
      have e1 : decide (S.length ≤ 60) = decide ((S.length : Int) ≤ 60) := decide_eq_decide.2 (by omega)
      cases hE : S.isEmpty
      · have hemp : (⟨S.toArray⟩ : ByteArray).toList.isEmpty = false := by rw [Lib.toList_data]; exact hE
        rw [hE] at hf0
        by_cases h60 : (S.length : Int) ≤ 60
        · have HN : Hid (nameL S = true) := by show _ = _; rw [hf0, e1]; simpa using h60
          clear e1 hf0
          go_wp2_with fail
          go_ret
          exact ⟨by rw [HN.out]; rfl, rfl⟩
        · have HN : Hid (nameL S = false) := by show _ = _; rw [hf0, e1]; simpa using h60
          clear e1 hf0
          go_wp2_with fail
          go_ret
          exact ⟨by rw [HN.out]; rfl, rfl⟩
      · have hemp : (⟨S.toArray⟩ : ByteArray).toList.isEmpty = true := by rw [Lib.toList_data]; exact hE
        rw [hE] at hf0
        have HN : Hid (nameL S = false) := by show _ = _; rw [hf0]; rfl
        clear e1 hf0
        go_wp2_with fail
        go_ret
        exact ⟨by rw [HN.out]; rfl, rfl⟩

set_option maxRecDepth 100000 in
set_option maxHeartbeats 2000000 in
theorem splitHd_any (S : List UInt8) (w : World) (hs : S.length ≤ 1000000000) (hM : MaxL w) :
    Calls Tryz.prog 24 #[.string ⟨S.toArray⟩] w fun e w' => e = .returned (.tuple #[.string ⟨(splitHd S).1.toArray⟩, .string ⟨(splitHd S).2.toArray⟩]) ∧ Below w.heap.size w w' := by
  obtain ⟨m, hm⟩ := hM
  have hts := text_size S
  have cP := Tryz.strings_HasPrefix ⟨S.toArray⟩ ⟨#[13, 10]⟩ w
  have cI := Tryz.strings_Index ⟨S.toArray⟩ ⟨#[13, 10, 13, 10]⟩ m w (by rw [hts]; omega) hm
  have e1 : (⟨S.toArray⟩ : ByteArray).data.toList = S := rfl
  have e2 : (⟨#[13, 10]⟩ : ByteArray).data.toList = [13, 10] := rfl
  have e3 : (⟨#[13, 10, 13, 10]⟩ : ByteArray).data.toList = [13, 10, 13, 10] := rfl
  rw [e1, e2] at cP
  rw [e1, e3] at cI
  have hroom := Lib.index_room S [13, 10, 13, 10]
  have hge := Lib.index_ge S [13, 10, 13, 10]
  by_cases hp : Lib.hasPrefix S [13, 10] = true
  · have h2 : 2 ≤ S.length := by
      have := List.isPrefixOf_iff_prefix.1 hp
      have := this.length_le
      simpa using this
    have h2z : (2 : Int) ≤ (S.length : Int) := by omega
    have hx1 : (⟨S.toArray⟩ : ByteArray).extract 0 2 = ⟨(S.take 2).toArray⟩ := by rw [text_part]; simp
    have hx2 : (⟨S.toArray⟩ : ByteArray).extract 2 S.length = ⟨(S.drop 2).toArray⟩ := by rw [text_part]; congr 2; rw [List.take_of_length_le (by simp)]
    have hR : splitHd S = (S.take 2, S.drop 2) := by unfold splitHd; rw [if_pos hp]
    rw [hR]
    rw [hp] at cP
    clear hR hp hroom hge e1 e2 e3 cI
    go_enter Tryz.func24, Tryz.ntmps24
    go_wp2_with (go_at_call 45; with_reducible refine cP.mono ?_; rintro e w1 ⟨rfl, hw⟩; rw [hw]; clear hw)
    go_region
    go_wp2_with fail
    go_ret2
    exact ⟨rfl, (Below.refl _ _).drew⟩
  · have hpf : Lib.hasPrefix S [13, 10] = false := by simpa using hp
    rw [hpf] at cP
    obtain ⟨I, hI⟩ : ∃ I, Lib.index S [13, 10, 13, 10] = I := ⟨_, rfl⟩
    rw [hI] at cI hroom hge
    by_cases h0 : I < 0
    · have hR : splitHd S = (S, []) := by unfold splitHd; rw [if_neg hp, if_pos (by rw [hI]; exact h0)]
      rw [hR]
      clear hR hp hpf hroom hge e1 e2 e3 hI
      go_enter Tryz.func24, Tryz.ntmps24
      go_wp2_with (first
        | (go_at_call 45; with_reducible refine cP.mono ?_; rintro e w1 ⟨rfl, hw⟩; rw [hw]; clear hw)
        | (go_at_call 46; with_reducible refine cI.mono ?_; rintro e w1 ⟨rfl, hw⟩; rw [hw]; clear hw))
      go_ret2
      exact ⟨rfl, Below.refl _ _⟩
    · obtain ⟨i, rfl⟩ := Int.eq_ofNat_of_zero_le (show 0 ≤ I by omega)
      have hR : splitHd S = (S.take (i + 4), S.drop (i + 4)) := by unfold splitHd; rw [if_neg hp, if_neg (by rw [hI]; exact h0), hI]; rfl
      have hi4 : i + 4 ≤ S.length := by have := hroom (by omega); simp at this; omega
      have hx1 : (⟨S.toArray⟩ : ByteArray).extract 0 (i + 4) = ⟨(S.take (i + 4)).toArray⟩ := by rw [text_part]; simp
      have hx2 : (⟨S.toArray⟩ : ByteArray).extract (i + 4) S.length = ⟨(S.drop (i + 4)).toArray⟩ := by rw [text_part]; congr 2; rw [List.take_of_length_le (by simp)]
      have hw1 : IntKind.i64.wrap ((i : Int) + 4) = (i : Int) + 4 := IntWalk.i64_in _ (by omega)
      have hz1 : (0 : Int) ≤ (i : Int) + 4 := by omega
      have hz2 : (i : Int) + 4 ≤ (S.length : Int) := by omega
      have hz3 : ((i : Int) + 4).toNat = i + 4 := by omega
      rw [hR]
      clear hR hp hpf hroom hge e1 e2 e3 hI
      go_enter Tryz.func24, Tryz.ntmps24
      go_wp2_with (first
        | (go_at_call 45; with_reducible refine cP.mono ?_; rintro e w1 ⟨rfl, hw⟩; rw [hw]; clear hw)
        | (go_at_call 46; with_reducible refine cI.mono ?_; rintro e w1 ⟨rfl, hw⟩; rw [hw]; clear hw))
      go_region
      go_wp2_with fail
      go_ret2
      exact ⟨rfl, (Below.refl _ _).drew⟩
end Go.Proofs.YtgblgbhfgiajiaaGreatDoor
