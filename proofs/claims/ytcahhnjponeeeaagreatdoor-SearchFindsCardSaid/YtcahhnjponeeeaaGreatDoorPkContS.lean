/- bytealg.MaxLen as the program's text lays it; strings.Cut at one letter. No condition beyond those each names. The walks over head.name, head.Split, and strings.Trim, strings.Split as the heads' code meets them. Condition: bytealg.MaxLen lies (where a text is looked for in another). The walk over head.Fields: it returns what its plain function says. Condition: bytealg.MaxLen lies. slices.Contains at a row of texts. No condition beyond those each names. -/
import Derived.Test.YtcahhnjponeeeaaGreatDoorRows
import Derived.Lib.CutLaws
import Derived.Shelf.Strings.SlTrimAscii
import Derived.IntWalk
import Derived.Test.YtcahhnjponeeeaaGreatDoorPkShelf
import Derived.Test.YtcahhnjponeeeaaGreatDoorPkKit2
import Derived.Test.YtcahhnjponeeeaaGreatDoorPkText
import Derived.Test.YtcahhnjponeeeaaGreatDoorPkFlagD
import Derived.Test.YtcahhnjponeeeaaGreatDoorPkAny
namespace Go.Proofs.YtcahhnjponeeeaaGreatDoor
open Go.RowKit Go.Shelf
def MaxL (w : World) : Prop := ∃ m, w.cell? ⟨1, 0, none⟩ = some (.int .i64 m)
theorem MaxL.below {w w' : World} (h : MaxL w) (hb : Below w.heap.size w w') : MaxL w' := by
  obtain ⟨m, hm⟩ := h
  refine ⟨m, (hb.cell (p := ⟨_, 0, none⟩) ?_).trans hm⟩
  rcases Nat.lt_or_ge 1 w.heap.size with h' | h'
  · exact h'
  · simp [World.cell?, Array.getElem?_eq_none h'] at hm
theorem cut_l (l : List UInt8) (c : UInt8) (W : World) (hs : l.length ≤ 1000000000) (hM : MaxL W) :
    Calls Tryz.prog 52 #[.string ⟨l.toArray⟩, .string ⟨#[c]⟩] W fun e w' => e = .returned (.tuple #[.string ⟨(Lib.cut l [c]).1.toArray⟩, .string ⟨(Lib.cut l [c]).2.1.toArray⟩, .bool (Lib.cut l [c]).2.2]) ∧ Below W.heap.size W w' := by
  obtain ⟨m, hm⟩ := hM
  refine (Tryz.strings_Cut ⟨l.toArray⟩ ⟨#[c]⟩ m W (by rw [text_size]; omega) hm).mono ?_
  rintro e w' ⟨h1, n, rfl⟩
  exact ⟨h1, ⟨rfl, rfl, rfl, Nat.le_refl _, fun _ _ => rfl⟩⟩
end Go.Proofs.YtcahhnjponeeeaaGreatDoor
namespace Go.Proofs.YtcahhnjponeeeaaGreatDoor
open Go.RowKit Go.Shelf
theorem trim_two (l : List UInt8) (W : World) (hs : l.length ≤ 9223372036854775807) :
    Calls Tryz.prog 50 #[.string ⟨l.toArray⟩, .string ⟨#[32, 9]⟩] W fun e w' => e = .returned (.string ⟨(trimB l).toArray⟩) ∧ Below W.heap.size W w' :=
  Any.strings_Trim_laid Tryz.lays160 zero92 ⟨l.toArray⟩ ⟨#[32, 9]⟩ W (by rw [text_size]; exact hs) (by decide) (ascii_of_all (by decide))
theorem trim_one (l : List UInt8) (W : World) (hs : l.length ≤ 9223372036854775807) :
    Calls Tryz.prog 50 #[.string ⟨l.toArray⟩, .string ⟨#[32]⟩] W fun e w' => e = .returned (.string ⟨(trimW l).toArray⟩) ∧ Below W.heap.size W w' :=
  Any.strings_Trim_laid Tryz.lays160 zero92 ⟨l.toArray⟩ ⟨#[32]⟩ W (by rw [text_size]; exact hs) (by decide) (ascii_of_all (by decide))
/-- strings.Split: the pieces, in a new block -/
theorem split_l (l sep : List UInt8) (W : World) (hs : l.length ≤ 1000000000) (hsep : 1 ≤ sep.length) (hM : MaxL W) :
    Calls Tryz.prog 49 #[.string ⟨l.toArray⟩, .string ⟨sep.toArray⟩] W fun e w' => e = .returned (.slice (some ⟨W.heap.size, 0, none⟩) (Lib.split l sep).length (Lib.split l sep).length) ∧
      (∀ (j : Nat) p, (Lib.split l sep)[j]? = some p → w'.cell? ⟨W.heap.size, j, none⟩ = some (.string ⟨p.toArray⟩)) ∧ W.heap.size < w'.heap.size ∧ Below W.heap.size W w' := by
  obtain ⟨m, hm⟩ := hM
  refine (Tryz.strings_Split ⟨l.toArray⟩ ⟨sep.toArray⟩ m W (by rw [text_size]; omega) hm (by rw [text_size]; exact hsep)).mono ?_
  have hd : (Lib.splitB ⟨sep.toArray⟩ 0 (Lib.countB ⟨l.toArray⟩ ⟨sep.toArray⟩) ⟨l.toArray⟩).map (·.data.toList) = Lib.split l sep := Lib.splitB_data _ _ _ _
  have hn : Lib.countB ⟨l.toArray⟩ ⟨sep.toArray⟩ + 1 = (Lib.split l sep).length := by
    rw [← hd, List.length_map, Lib.splitB_all _ (by rw [text_size]; exact hsep) 0 _ _ rfl]
  rintro e w' ⟨rfl, rfl⟩
  refine ⟨by rw [hn], ?_, by simp, (Below.refl _ _).alloc (Nat.le_refl _) _⟩
  intro j p hj
  rw [← hd, List.getElem?_map] at hj
  obtain ⟨x, hx, rfl⟩ := Option.map_eq_some_iff.1 hj
  rw [World.cell?_alloc_at _ _ _ _ rfl, List.getElem?_toArray, List.getElem?_map, hx]
  rfl
set_option maxRecDepth 100000 in
set_option maxHeartbeats 2000000 in
theorem name_any (S : List UInt8) (w : World) (hs : S.length ≤ 1000000000) :
    Calls Tryz.prog 53 #[.string ⟨S.toArray⟩] w fun e w' => e = .returned (.bool (nameL S)) ∧ w = w' := by
  have hts := text_size S
  go_enter Tryz.func53, Tryz.ntmps53
  go_wp2_with fail
  go_loopg [6] S.length (fun g s6 wr => ∃ (k : Nat), k + g = S.length ∧ s6 = .int .i64 k ∧ w = wr ∧ Hid (nameL S = ((S.drop k).all nameC && (!S.isEmpty && decide (S.length ≤ 60)))))
  case atStart => exact ⟨0, by omega, by simp, rfl, by show _ = _; rfl⟩
  case round =>
    obtain ⟨k, hk, rfl, rfl, Hf⟩ := hrel
    by_cases hlt : k < S.length
    · obtain ⟨g', rfl⟩ : ∃ g', gk = g' + 1 := ⟨gk - 1, by omega⟩
      obtain ⟨c, hc⟩ : ∃ c, S[k] = c := ⟨_, rfl⟩
      have hget : ∀ h, (⟨S.toArray⟩ : ByteArray)[k]'h = c := fun h => hc
      have hf0 := Hf.out
      rw [List.drop_eq_getElem_cons hlt, hc, List.all_cons] at hf0
      have e3 : (c == 58) = ((c.toNat : Int) == 58) := by
        by_cases h : c = 58
        · subst h; rfl
        · rw [beq_eq_false_iff_ne.2 h, eq_comm, beq_eq_false_iff_ne]
          intro h2; exact h (UInt8.toNat_inj.1 (by show c.toNat = 58; omega))
      have hn : nameC c = (decide (33 ≤ c.toNat) && decide (c.toNat ≤ 126) && !((c.toNat : Int) == 58)) := by
        unfold nameC
        rw [← e3]; rfl
      by_cases h1 : (c.toNat : Int) < 33
      · have HN : Hid (nameL S = false) := by
          show _ = _
          rw [hf0, hn, show decide (33 ≤ c.toNat) = false by simp; omega]; rfl
        clear hf0 hn hc e3
        go_wp2_with fail
        go_ret
        exact ⟨by rw [HN.out]; rfl, rfl⟩
      · by_cases h2 : 126 < (c.toNat : Int)
        · have HN : Hid (nameL S = false) := by
            show _ = _
            rw [hf0, hn, show decide (c.toNat ≤ 126) = false by simp; omega, Bool.and_false]; rfl
          clear hf0 hn hc e3
          go_wp2_with fail
          go_ret
          exact ⟨by rw [HN.out]; rfl, rfl⟩
        · cases h3 : ((c.toNat : Int) == 58)
          · have HN : Hid (nameL S = ((S.drop (k + 1)).all nameC && (!S.isEmpty && decide (S.length ≤ 60)))) := by
              show _ = _
              rw [hf0, hn, h3, show decide (c.toNat ≤ 126) = true by simp; omega, show decide (33 ≤ c.toNat) = true by simp; omega]; rfl
            clear hf0 hn hc e3
            go_wp2_with fail
            go_roundg g'
            case measure => omega
            case rel => exact ⟨k + 1, by omega, by go_num, rfl, HN⟩
          · have HN : Hid (nameL S = false) := by
              show _ = _
              rw [hf0, hn, h3]; simp
            clear hf0 hn hc e3
            go_wp2_with fail
            go_ret
            exact ⟨by rw [HN.out]; rfl, rfl⟩
    · have hf0 := Hf.out
      rw [List.drop_eq_nil_of_le (by omega), List.all_nil, Bool.true_and] at hf0
      have e1 : decide (S.length ≤ 60) = decide ((S.length : Int) ≤ 60) := decide_eq_decide.2 (by omega)
      cases hE : S.isEmpty
      · have hemp : (⟨S.toArray⟩ : ByteArray).toList.isEmpty = false := by rw [Lib.toList_data]; exact hE
        rw [hE] at hf0
        by_cases h60 : (S.length : Int) ≤ 60
        · have HN : Hid (nameL S = true) := by show _ = _; rw [hf0, e1]; simpa using h60
          clear e1 hf0
          go_wp2_with fail
          go_ret
          exact ⟨by rw [HN.out]; rfl, rfl⟩
        · have HN : Hid (nameL S = false) := by show _ = _; rw [hf0, e1]; simpa using h60
          clear e1 hf0
          go_wp2_with fail
          go_ret
          exact ⟨by rw [HN.out]; rfl, rfl⟩
      · have hemp : (⟨S.toArray⟩ : ByteArray).toList.isEmpty = true := by rw [Lib.toList_data]; exact hE
        rw [hE] at hf0
        have HN : Hid (nameL S = false) := by show _ = _; rw [hf0]; rfl
        clear e1 hf0
        go_wp2_with fail
        go_ret
        exact ⟨by rw [HN.out]; rfl, rfl⟩
set_option maxRecDepth 100000 in
set_option maxHeartbeats 2000000 in
theorem splitHd_any (S : List UInt8) (w : World) (hs : S.length ≤ 1000000000) (hM : MaxL w) :
    Calls Tryz.prog 26 #[.string ⟨S.toArray⟩] w fun e w' => e = .returned (.tuple #[.string ⟨(splitHd S).1.toArray⟩, .string ⟨(splitHd S).2.toArray⟩]) ∧ Below w.heap.size w w' := by
  obtain ⟨m, hm⟩ := hM
  have hts := text_size S
  have cP := Tryz.strings_HasPrefix ⟨S.toArray⟩ ⟨#[13, 10]⟩ w
  have cI := Tryz.strings_Index ⟨S.toArray⟩ ⟨#[13, 10, 13, 10]⟩ m w (by rw [hts]; omega) hm
  have e1 : (⟨S.toArray⟩ : ByteArray).data.toList = S := rfl
  have e2 : (⟨#[13, 10]⟩ : ByteArray).data.toList = [13, 10] := rfl
  have e3 : (⟨#[13, 10, 13, 10]⟩ : ByteArray).data.toList = [13, 10, 13, 10] := rfl
  rw [e1, e2] at cP
  rw [e1, e3] at cI
  have hroom := Lib.index_room S [13, 10, 13, 10]
  have hge := Lib.index_ge S [13, 10, 13, 10]
  by_cases hp : Lib.hasPrefix S [13, 10] = true
  · have h2 : 2 ≤ S.length := by
      have := List.isPrefixOf_iff_prefix.1 hp
      have := this.length_le
      simpa using this
    have h2z : (2 : Int) ≤ (S.length : Int) := by omega
    have hx1 : (⟨S.toArray⟩ : ByteArray).extract 0 2 = ⟨(S.take 2).toArray⟩ := by rw [text_part]; simp
    have hx2 : (⟨S.toArray⟩ : ByteArray).extract 2 S.length = ⟨(S.drop 2).toArray⟩ := by rw [text_part]; congr 2; rw [List.take_of_length_le (by simp)]
    have hR : splitHd S = (S.take 2, S.drop 2) := by unfold splitHd; rw [if_pos hp]
    rw [hR]
    rw [hp] at cP
    clear hR hp hroom hge e1 e2 e3 cI
    go_enter Tryz.func26, Tryz.ntmps26
    go_wp2_with (go_at_call 55; with_reducible refine cP.mono ?_; rintro e w1 ⟨rfl, hw⟩; rw [hw]; clear hw)
    go_region
    go_wp2_with fail
    go_ret2
    exact ⟨rfl, (Below.refl _ _).drew⟩
  · have hpf : Lib.hasPrefix S [13, 10] = false := by simpa using hp
    rw [hpf] at cP
    obtain ⟨I, hI⟩ : ∃ I, Lib.index S [13, 10, 13, 10] = I := ⟨_, rfl⟩
    rw [hI] at cI hroom hge
    by_cases h0 : I < 0
    · have hR : splitHd S = (S, []) := by unfold splitHd; rw [if_neg hp, if_pos (by rw [hI]; exact h0)]
      rw [hR]
      clear hR hp hpf hroom hge e1 e2 e3 hI
      go_enter Tryz.func26, Tryz.ntmps26
      go_wp2_with (first
        | (go_at_call 55; with_reducible refine cP.mono ?_; rintro e w1 ⟨rfl, hw⟩; rw [hw]; clear hw)
        | (go_at_call 56; with_reducible refine cI.mono ?_; rintro e w1 ⟨rfl, hw⟩; rw [hw]; clear hw))
      go_ret2
      exact ⟨rfl, Below.refl _ _⟩
    · obtain ⟨i, rfl⟩ := Int.eq_ofNat_of_zero_le (show 0 ≤ I by omega)
      have hR : splitHd S = (S.take (i + 4), S.drop (i + 4)) := by unfold splitHd; rw [if_neg hp, if_neg (by rw [hI]; exact h0), hI]; rfl
      have hi4 : i + 4 ≤ S.length := by have := hroom (by omega); simp at this; omega
      have hx1 : (⟨S.toArray⟩ : ByteArray).extract 0 (i + 4) = ⟨(S.take (i + 4)).toArray⟩ := by rw [text_part]; simp
      have hx2 : (⟨S.toArray⟩ : ByteArray).extract (i + 4) S.length = ⟨(S.drop (i + 4)).toArray⟩ := by rw [text_part]; congr 2; rw [List.take_of_length_le (by simp)]
      have hw1 : IntKind.i64.wrap ((i : Int) + 4) = (i : Int) + 4 := IntWalk.i64_in _ (by omega)
      have hz1 : (0 : Int) ≤ (i : Int) + 4 := by omega
      have hz2 : (i : Int) + 4 ≤ (S.length : Int) := by omega
      have hz3 : ((i : Int) + 4).toNat = i + 4 := by omega
      rw [hR]
      clear hR hp hpf hroom hge e1 e2 e3 hI
      go_enter Tryz.func26, Tryz.ntmps26
      go_wp2_with (first
        | (go_at_call 55; with_reducible refine cP.mono ?_; rintro e w1 ⟨rfl, hw⟩; rw [hw]; clear hw)
        | (go_at_call 56; with_reducible refine cI.mono ?_; rintro e w1 ⟨rfl, hw⟩; rw [hw]; clear hw))
      go_region
      go_wp2_with fail
      go_ret2
      exact ⟨rfl, (Below.refl _ _).drew⟩
end Go.Proofs.YtcahhnjponeeeaaGreatDoor
namespace Go.Proofs.YtcahhnjponeeeaaGreatDoor
open Go.RowKit Go.Shelf
theorem splitK_len (sep : List UInt8) : ∀ (k : Nat) (s p : List UInt8), p ∈ Lib.splitK sep 0 k s → p.length ≤ s.length
  | 0, s, p, h => by simp [Lib.splitK] at h; rw [h]; exact Nat.le_refl _
  | k + 1, s, p, h => by
    unfold Lib.splitK at h
    split at h
    · simp at h; rw [h]; exact Nat.le_refl _
    · rw [List.mem_cons] at h
      rcases h with h | h
      · rw [h, List.length_take]; omega
      · have := splitK_len sep k _ p h
        rw [List.length_drop] at this
        omega
theorem splitK_many (sep : List UInt8) : ∀ (k : Nat) (s : List UInt8), (Lib.splitK sep 0 k s).length ≤ k + 1
  | 0, s => by simp [Lib.splitK]
  | k + 1, s => by
    unfold Lib.splitK
    split
    · simp
    · have := splitK_many sep k (s.drop ((Lib.index s sep).toNat + sep.length))
      simp only [List.length_cons]; omega
theorem split_len {s sep p : List UInt8} (h : p ∈ Lib.split s sep) : p.length ≤ s.length := splitK_len sep _ s p h
theorem split_many (s sep : List UInt8) : (Lib.split s sep).length ≤ s.length + 2 := by
  have h1 := splitK_many sep (Lib.count s sep) s
  have h2 := Lib.count_le s sep
  unfold Lib.split; omega
theorem splitHd_len (S : List UInt8) : (splitHd S).1.length ≤ S.length := by
  unfold splitHd
  split
  · simp only [List.length_take]; omega
  · split
    · exact Nat.le_refl _
    · simp only [List.length_take]; omega
theorem cut_len (l sep : List UInt8) : (Lib.cut l sep).1.length ≤ l.length ∧ (Lib.cut l sep).2.1.length ≤ l.length := by
  unfold Lib.cut
  split
  · simp only [List.length_take, List.length_drop]; omega
  · exact ⟨Nat.le_refl _, by simp⟩
theorem dropWhile_len (p : UInt8 → Bool) : ∀ l : List UInt8, (l.dropWhile p).length ≤ l.length
  | [] => by simp
  | c :: l => by
    rw [List.dropWhile_cons]
    have := dropWhile_len p l
    split <;> simp only [List.length_cons] <;> omega
theorem trimS_len (l cs : List UInt8) : (Lib.trimS l cs).length ≤ l.length := by
  unfold Lib.trimS Lib.trimRightS Lib.trimLeftS
  have h1 := dropWhile_len (cs.contains ·) l.reverse
  have h2 := dropWhile_len (cs.contains ·) (l.reverse.dropWhile (cs.contains ·)).reverse
  rw [List.length_reverse] at h1 h2
  omega
theorem fldCells_len : ∀ l : List Fld, (fldCells l).length = l.length * 2
  | [] => rfl
  | f :: l => by
    have := fldCells_len l
    have e : fldCells (f :: l) = Value.string ⟨f.1.toArray⟩ :: Value.string ⟨f.2.toArray⟩ :: fldCells l := rfl
    rw [e, List.length_cons, List.length_cons, this, List.length_cons]; omega
theorem fldCells_set (o : List Fld) (f : Fld) (u : List UInt8) : (fldCells (o ++ [f])).set (o.length * 2 + 1) (.string ⟨u.toArray⟩) = fldCells (o ++ [(f.1, u)]) := by
  rw [← fldCells_snoc, ← fldCells_snoc, List.set_append_right _ _ (by rw [fldCells_len]; omega), fldCells_len]
  rw [show o.length * 2 + 1 - o.length * 2 = 1 by omega]
  rfl
/-- what Fields returns -/
def FieldsRes (r : (Nat × Nat) ⊕ List Fld) (v : Value) (n0 : Nat) (w : World) : Prop :=
  match r with
  | .inl x => ∃ g, v = .tuple #[.slice none 0 0, .iface 104 (.pointer (some ⟨g, 0, none⟩))] ∧ n0 ≤ g ∧ w.heap[g]? = some (.cells #[.int .i64 (x.1 : Int), .int .i64 (x.2 : Int)] 105 (0, 0))
  | .inr l => ∃ ao cap, v = .tuple #[.slice ao l.length cap, .nilIface] ∧ FldRow w (.slice ao l.length cap) l ∧ Lens l
theorem fields_step {P : List (List UInt8)} {k : Nat} {out : List Fld} {l : List UInt8} {r : (Nat × Nat) ⊕ List Fld} (hl : P[k]? = some l) (h : fieldsF k (P.drop k) out = r) :
    (if l = [] then fieldsF (k + 1) (P.drop (k + 1)) out
    else if badL l then .inl (3, k)
    else if blankC (l.headD 0) then (if out = [] then .inl (3, k) else fieldsF (k + 1) (P.drop (k + 1)) (lastGrow out l))
    else if (!(Lib.cut l [58]).2.2 || !nameL (Lib.cut l [58]).1) then .inl (3, k)
    else if out.length = 40 then .inl (4, k)
    else fieldsF (k + 1) (P.drop (k + 1)) (out ++ [((Lib.cut l [58]).1, trimB (Lib.cut l [58]).2.1)])) = r := by
  have hk : k < P.length := (List.getElem?_eq_some_iff.1 hl).1
  have e : P[k] = l := by rw [List.getElem?_eq_getElem hk] at hl; exact Option.some.inj hl
  rw [List.drop_eq_getElem_cons hk, e] at h
  exact h
/-- texts of so many bytes -/
def Bnd (out : List Fld) (N B : Nat) : Prop := ∀ f ∈ out, f.1.length ≤ N ∧ f.2.length ≤ B
theorem Bnd.more {out : List Fld} {N B B' : Nat} (h : Bnd out N B) (hB : B ≤ B') : Bnd out N B' := fun f hf => ⟨(h f hf).1, Nat.le_trans (h f hf).2 hB⟩
theorem head_get (l : List UInt8) (h : 0 < (⟨l.toArray⟩ : ByteArray).size) : (⟨l.toArray⟩ : ByteArray)[0]'h = l.headD 0 := by
  cases l with
  | nil => exact absurd h (by rw [text_size]; simp)
  | cons c r => rfl
set_option maxRecDepth 100000 in
set_option maxHeartbeats 8000000 in
theorem fields_any (S : List UInt8) (w : World) (hs : S.length ≤ 9000) (hM : MaxL w) :
    Calls Tryz.prog 21 #[.string ⟨S.toArray⟩] w fun e w' => ∃ v, e = .returned v ∧ FieldsRes (fieldsL S) v w.heap.size w' ∧ Below w.heap.size w w' := by
  have cH := splitHd_any S w (by omega) hM
  have hHl := splitHd_len S
  obtain ⟨R, hR⟩ : ∃ R, fieldsL S = R := ⟨_, rfl⟩
  have hR2 : fieldsF 0 (Lib.split (splitHd S).1 [13, 10]) [] = R := hR
  rw [hR]
  have cS := fun W (hW : MaxL W) => split_l (splitHd S).1 [13, 10] W (by omega) (by decide) hW
  have hPl := fun p (hp : p ∈ Lib.split (splitHd S).1 [13, 10]) => Nat.le_trans (split_len hp) hHl
  have hPm := split_many (splitHd S).1 [13, 10]
  generalize Lib.split (splitHd S).1 [13, 10] = P at cS hPl hPm hR2
  generalize (splitHd S).1 = H at cH cS hHl hPm
  generalize (splitHd S).2 = B at cH
  have hPn : P.length ≤ 9002 := by omega
  have HPL := Lib.hid hPl
  have HR := Lib.hid hR2
  clear hR hR2 hPl hPm hHl
  go_enter Tryz.func21, Tryz.ntmps21
  go_wp2_with (first
    | (go_at_call 26; with_reducible refine cH.mono ?_; rintro e w1 ⟨rfl, hb1⟩; have hM1 := hM.below hb1)
    | (go_at_call 49; with_reducible refine (cS _ hM1).mono ?_; rintro e w2 ⟨rfl, hcl, hsz, hb2⟩))
  have hb12 := hb1.trans (hb2.mono hb1.size)
  have hM2 := hM1.below hb2
  have HCL := Lib.hid hcl
  clear hcl cS cH
  go_loopg [6, 22] P.length (fun g s6 s22 wr => ∃ (k : Nat) (out : List Fld), k + g = P.length ∧ s22 = .int .i64 k ∧ out.length ≤ 40 ∧ Hid (Bnd out 9000 (9001 * k)) ∧
    wr.ownsRow w2.heap.size 74 2 s6 out.length (fldCells out) ∧ Below w2.heap.size w2 wr ∧ Hid (fieldsF k (P.drop k) out = R))
  case atStart => exact ⟨0, [], by omega, rfl, by simp, (by intro f hf; simp at hf), World.ownsRow_nil _ _ _ _, Below.refl _ _, by show _ = _; simpa using HR.out⟩
  case round =>
    obtain ⟨k, out, hk, rfl, hol, HB, hown, hbr, Hf⟩ := hrel
    obtain ⟨ao, cap, rfl, hao⟩ := owns_slice' hown
    have HAO := Lib.hid hao
    clear hao
    have hfin := fun (W : World) (hW : Below w2.heap.size w2 W) => hb12.trans (hW.mono hb12.size)
    by_cases hlt : k < P.length
    · obtain ⟨g', rfl⟩ : ∃ g', gk = g' + 1 := ⟨gk - 1, by omega⟩
      obtain ⟨l, hl⟩ : ∃ l, P[k]? = some l := ⟨P[k], List.getElem?_eq_getElem hlt⟩
      have hcell := (hbr.cell (p := ⟨w1.heap.size, k, none⟩) hsz).trans (HCL.out k l hl)
      have hll := HPL.out l (List.mem_of_getElem? hl)
      have hst := Lib.hid (fields_step hl Hf.out)
      have hMr : MaxL wr := hM2.below hbr
      have cT := fun W => trim_two l W (by omega)
      have htl : (trimB l).length ≤ l.length := trimS_len l _
      clear hl
      by_cases hle : l = []
      · subst hle
        have hf2 := Lib.hid (show fieldsF (k + 1) (P.drop (k + 1)) out = R from by have := hst.out; rwa [if_pos rfl] at this)
        clear hst
        go_wp2_with (first
          | (go_at_call 50; with_reducible refine (cT _).mono ?_; rintro e w3 ⟨rfl, h3⟩; have y3 := hbr.trans (h3.mono hbr.size); have o3 := owns_below hown h3))
        go_roundg g'
        case measure => omega
        case rel => exact ⟨k + 1, out, by omega, by go_num, hol, HB.out.more (by omega), o3, y3, hf2.out⟩
      · have cA := fun W => containsAny_any ⟨l.toArray⟩ ⟨#[13, 10, 0]⟩ W (by decide) (by decide) (by rw [text_size]; omega) (by decide)
        have eA : Lib.containsAny (⟨l.toArray⟩ : ByteArray).data.toList (⟨#[13, 10, 0]⟩ : ByteArray).data.toList = badL l := rfl
        simp only [eA] at cA
        have hst1 := Lib.hid (hst.out)
        have hemp : (⟨l.toArray⟩ : ByteArray).toList.isEmpty = false := by rw [Lib.toList_data]; simpa using hle
        have hemp2 : l.isEmpty = false := by simpa using hle
        cases hbd : badL l
        · rw [hbd] at cA
          obtain ⟨c, hc0⟩ : ∃ c, l.headD 0 = c := ⟨_, rfl⟩
          have hget : ∀ h, (⟨l.toArray⟩ : ByteArray)[0]'h = c := fun h => (head_get l h).trans hc0
          have hlen1 : 0 < l.length := List.length_pos_iff.2 hle
          have hts := text_size l
          have hst2 : (if blankC c = true then (if out = [] then .inl (3, k) else fieldsF (k + 1) (P.drop (k + 1)) (lastGrow out l))
            else if (!(Lib.cut l [58]).2.2 || !nameL (Lib.cut l [58]).1) = true then .inl (3, k)
            else if out.length = 40 then .inl (4, k)
            else fieldsF (k + 1) (P.drop (k + 1)) (out ++ [((Lib.cut l [58]).1, trimB (Lib.cut l [58]).2.1)])) = R := by
            have := hst.out
            rw [if_neg hle, hbd, if_neg (by decide), hc0] at this
            exact this
          clear hst hst1 hbd
          cases hbl : blankC c
          · rw [hbl, if_neg (by decide)] at hst2
            have hb32 : ((c.toNat : Int) == 32) = false := by
              rw [beq_eq_false_iff_ne]; intro h; have : c = 32 := UInt8.toNat_inj.1 (by show c.toNat = 32; omega)
              subst this; cases hbl
            have hb9 : ((c.toNat : Int) == 9) = false := by
              rw [beq_eq_false_iff_ne]; intro h; have : c = 9 := UInt8.toNat_inj.1 (by show c.toNat = 9; omega)
              subst this; cases hbl
            have cC := fun W hW => cut_l l 58 W (by omega) hW
            have hcl := cut_len l [58]
            generalize Lib.cut l [58] = C at cC hst2 hcl
            obtain ⟨n, v, ok⟩ := C
            simp only at cC hst2 hcl
            have cN := fun W => name_any n W (by omega)
            have cV := fun W => trim_two v W (by omega)
            have hvl : (trimB v).length ≤ v.length := trimS_len v _
            clear hbl hc0
            cases ok
            · have HX : Hid (.inl (3, k) = R) := by simp at hst2; exact hst2
              clear hst2 cN cV
              go_wp2_with (first
                | (go_at_call 50; with_reducible refine (cT _).mono ?_; rintro e w3 ⟨rfl, h3⟩; have y3 := hbr.trans (h3.mono hbr.size); have o3 := owns_below hown h3)
                | (go_at_call 51; with_reducible refine (cA _).mono ?_; rintro e w4 ⟨rfl, h4⟩; have y4 := y3.trans (h4.mono y3.size); have o4 := owns_below o3 h4)
                | (go_at_call 52; with_reducible refine (cC _ ((hMr.below h3).below h4)).mono ?_; rintro e w5 ⟨rfl, h5⟩; have y5 := y4.trans (h5.mono y4.size); have o5 := owns_below o4 h5))
              go_ret2
              refine ⟨_, rfl, ?_, hfin _ (y5.alloc y5.size _)⟩
              rw [← HX.out]
              exact ⟨_, rfl, Nat.le_trans hb12.size y5.size, World.heap_alloc_new _ _⟩
            · cases hn : nameL n
              · rw [hn] at cN
                have HX : Hid (.inl (3, k) = R) := by rw [hn] at hst2; simp at hst2; exact hst2
                clear hst2 cV hn
                go_wp2_with (first
                  | (go_at_call 50; with_reducible refine (cT _).mono ?_; rintro e w3 ⟨rfl, h3⟩; have y3 := hbr.trans (h3.mono hbr.size); have o3 := owns_below hown h3)
                  | (go_at_call 51; with_reducible refine (cA _).mono ?_; rintro e w4 ⟨rfl, h4⟩; have y4 := y3.trans (h4.mono y3.size); have o4 := owns_below o3 h4)
                  | (go_at_call 52; with_reducible refine (cC _ ((hMr.below h3).below h4)).mono ?_; rintro e w5 ⟨rfl, h5⟩; have y5 := y4.trans (h5.mono y4.size); have o5 := owns_below o4 h5)
                  | (go_at_call 53; with_reducible refine (cN _).mono ?_; rintro e w6 ⟨rfl, hw6⟩; rw [← hw6]; clear hw6))
                go_ret2
                refine ⟨_, rfl, ?_, hfin _ (y5.alloc y5.size _)⟩
                rw [← HX.out]
                exact ⟨_, rfl, Nat.le_trans hb12.size y5.size, World.heap_alloc_new _ _⟩
              · rw [hn] at cN hst2
                by_cases h40 : out.length = 40
                · have HX : Hid (.inl (4, k) = R) := by simp [h40] at hst2; exact hst2
                  have h40b : ((out.length : Int) == 40) = true := by simp [h40]
                  clear hst2 cV hn h40
                  go_wp2_with (first
                    | (go_at_call 50; with_reducible refine (cT _).mono ?_; rintro e w3 ⟨rfl, h3⟩; have y3 := hbr.trans (h3.mono hbr.size); have o3 := owns_below hown h3)
                    | (go_at_call 51; with_reducible refine (cA _).mono ?_; rintro e w4 ⟨rfl, h4⟩; have y4 := y3.trans (h4.mono y3.size); have o4 := owns_below o3 h4)
                    | (go_at_call 52; with_reducible refine (cC _ ((hMr.below h3).below h4)).mono ?_; rintro e w5 ⟨rfl, h5⟩; have y5 := y4.trans (h5.mono y4.size); have o5 := owns_below o4 h5)
                    | (go_at_call 53; with_reducible refine (cN _).mono ?_; rintro e w6 ⟨rfl, hw6⟩; rw [← hw6]; clear hw6))
                  go_ret2
                  refine ⟨_, rfl, ?_, hfin _ (y5.alloc y5.size _)⟩
                  rw [← HX.out]
                  exact ⟨_, rfl, Nat.le_trans hb12.size y5.size, World.heap_alloc_new _ _⟩
                · have HX : Hid (fieldsF (k + 1) (P.drop (k + 1)) (out ++ [(n, trimB v)]) = R) := by simp [h40] at hst2; exact hst2
                  have h40b : ((out.length : Int) == 40) = false := by rw [beq_eq_false_iff_ne]; omega
                  have hol2 : out.length < 40 := by omega
                  clear hst2 hn h40
                  go_wp2_with (first
                    | (go_at_call 50; with_reducible refine (cT _).mono ?_; rintro e w3 ⟨rfl, h3⟩; have y3 := hbr.trans (h3.mono hbr.size); have o3 := owns_below hown h3)
                    | (go_at_call 51; with_reducible refine (cA _).mono ?_; rintro e w4 ⟨rfl, h4⟩; have y4 := y3.trans (h4.mono y3.size); have o4 := owns_below o3 h4)
                    | (go_at_call 52; with_reducible refine (cC _ ((hMr.below h3).below h4)).mono ?_; rintro e w5 ⟨rfl, h5⟩; have y5 := y4.trans (h5.mono y4.size); have o5 := owns_below o4 h5)
                    | (go_at_call 53; with_reducible refine (cN _).mono ?_; rintro e w6 ⟨rfl, hw6⟩; rw [← hw6]; clear hw6)
                    | (go_at_call 50; with_reducible refine (cV _).mono ?_; rintro e w7 ⟨rfl, h7⟩; have y7 := y5.trans (h7.mono y5.size); have o7 := owns_below o5 h7)
                    | (at_builtin; go_must (refine wpList_app2 rfl _ _ 69 rfl 74 Tryz.underlying69 fld_info rfl w2.heap.size _ _ _ _ rfl o7 (.string ⟨n.toArray⟩) (.string ⟨(trimB v).toArray⟩) rfl rfl rfl ?c3 (by decide) ?c5 ?_)))
                  case c3 => omega
                  case c5 => exact y7.size
                  intro v' w8 hown3 hg3 hv3
                  have y8 := below_app2 y7 y7.size o7 hg3
                  rw [fldCells_snoc out (n, trimB v)] at hown3
                  clear h40b
                  go_wp2_with fail
                  go_roundg g'
                  case measure => omega
                  case rel =>
                    refine ⟨k + 1, out ++ [(n, trimB v)], by omega, by go_num, by simp; omega, ?_, by simpa using hown3, y8, HX.out⟩
                    intro f hf
                    rw [List.mem_append] at hf
                    rcases hf with hf | hf
                    · have := HB.out f hf
                      exact ⟨this.1, by omega⟩
                    · simp at hf; rw [hf]; exact ⟨by show n.length ≤ _; omega, by show (trimB v).length ≤ _; omega⟩
          · rw [hbl, if_pos rfl] at hst2
            have hbb : ((c.toNat : Int) == 32) = true ∨ (((c.toNat : Int) == 32) = false ∧ ((c.toNat : Int) == 9) = true) := by
              have : c = 32 ∨ c = 9 := by simpa [blankC] using hbl
              rcases this with rfl | rfl
              · exact Or.inl rfl
              · exact Or.inr ⟨rfl, rfl⟩
            clear hbl hc0
            rcases List.eq_nil_or_concat out with rfl | ⟨o, f, rfl⟩
            · have HX : Hid (.inl (3, k) = R) := by rw [if_pos rfl] at hst2; exact hst2
              clear hst2
              rcases hbb with hb32 | ⟨hb32, hb9⟩
              · go_wp2_with (first
                  | (go_at_call 50; with_reducible refine (cT _).mono ?_; rintro e w3 ⟨rfl, h3⟩; have y3 := hbr.trans (h3.mono hbr.size); have o3 := owns_below hown h3)
                  | (go_at_call 51; with_reducible refine (cA _).mono ?_; rintro e w4 ⟨rfl, h4⟩; have y4 := y3.trans (h4.mono y3.size); have o4 := owns_below o3 h4))
                go_ret2
                refine ⟨_, rfl, ?_, hfin _ (y4.alloc y4.size _)⟩
                rw [← HX.out]
                exact ⟨_, rfl, Nat.le_trans hb12.size y4.size, World.heap_alloc_new _ _⟩
              · go_wp2_with (first
                  | (go_at_call 50; with_reducible refine (cT _).mono ?_; rintro e w3 ⟨rfl, h3⟩; have y3 := hbr.trans (h3.mono hbr.size); have o3 := owns_below hown h3)
                  | (go_at_call 51; with_reducible refine (cA _).mono ?_; rintro e w4 ⟨rfl, h4⟩; have y4 := y3.trans (h4.mono y3.size); have o4 := owns_below o3 h4))
                go_ret2
                refine ⟨_, rfl, ?_, hfin _ (y4.alloc y4.size _)⟩
                rw [← HX.out]
                exact ⟨_, rfl, Nat.le_trans hb12.size y4.size, World.heap_alloc_new _ _⟩
            · obtain ⟨f1, f2⟩ := f
              rw [List.concat_eq_append] at *
              obtain ⟨m, hom⟩ : ∃ m, o.length = m := ⟨_, rfl⟩
              have hlen : (o ++ [(f1, f2)]).length = m + 1 := by simp [hom]
              obtain ⟨g, rfl⟩ := HAO.out (by omega)
              have HX : Hid (fieldsF (k + 1) (P.drop (k + 1)) (o ++ [(f1, trimW (f2 ++ 32 :: trimB l))]) = R) := by
                rw [if_neg (by simp)] at hst2
                unfold lastGrow at hst2
                simp at hst2
                show _ = _
                simpa using hst2
              have hfb := HB.out (f1, f2) (by simp)
              simp only at hfb
              have hf2b : f2.length ≤ 81100000 := by omega
              have hjx : m * 2 + 1 < (o ++ [(f1, f2)]).length * 2 := by omega
              have hjc : (fldCells (o ++ [(f1, f2)]))[m * 2 + 1]? = some (.string ⟨f2.toArray⟩) := (fldCells_at _ m (f1, f2) (by rw [← hom]; simp)).2
              rw [hlen] at hown hol
              rw [hlen] at hjx
              have ha1 : (⟨f2.toArray⟩ : ByteArray) ++ ⟨#[32]⟩ = ⟨(f2 ++ [32]).toArray⟩ := text_cat _ _
              have ha2 : (⟨(f2 ++ [32]).toArray⟩ : ByteArray) ++ ⟨(trimB l).toArray⟩ = ⟨(f2 ++ 32 :: trimB l).toArray⟩ := by rw [text_cat]; simp
              have hs1 := text_size f2
              have hs2 := text_size (f2 ++ [32])
              have hs3 := text_size (trimB l)
              have hl2 : (f2 ++ [32]).length = f2.length + 1 := by simp
              have hW : (trimW (f2 ++ 32 :: trimB l)).length ≤ f2.length + 1 + (trimB l).length := by
                have := trimS_len (f2 ++ 32 :: trimB l) [32]
                simp only [List.length_append, List.length_cons] at this
                show _ ≤ _
                unfold trimW
                omega
              have cW := fun W => trim_one (f2 ++ 32 :: trimB l) W (by simp only [List.length_append, List.length_cons]; omega)
              clear hst2
              rcases hbb with hb32 | ⟨hb32, hb9⟩
              · go_wp2_with (first
                  | (go_at_call 50; with_reducible refine (cT _).mono ?_; rintro e w3 ⟨rfl, h3⟩; have y3 := hbr.trans (h3.mono hbr.size); have o3 := owns_below hown h3)
                  | (go_at_call 51; with_reducible refine (cA _).mono ?_; rintro e w4 ⟨rfl, h4⟩; have y4 := y3.trans (h4.mono y3.size); have o4 := owns_below o3 h4; have c4 := (o4.cellAt (m * 2 + 1) hjx).trans hjc)
                  | (go_at_call 50; with_reducible refine (cW _).mono ?_; rintro e w5 ⟨rfl, h5⟩; have y5 := y4.trans (h5.mono y4.size); have o5 := owns_below o4 h5; have c5 := (o5.cellAt (m * 2 + 1) hjx).trans hjc; have f5 := o5.frozenAt (m * 2 + 1)))
                have hgb : w2.heap.size ≤ g := (o5.lt g rfl).1
                have y6 := y5.setCell (p := ⟨g, m * 2 + 1, none⟩) hgb (.string ⟨(trimW (f2 ++ 32 :: trimB l)).toArray⟩)
                have o6 := (o5.stored (m * 2 + 1) (.string ⟨(trimW (f2 ++ 32 :: trimB l)).toArray⟩)).1
                rw [← hom, fldCells_set] at o6
                go_roundg g'
                case measure => omega
                case rel =>
                  refine ⟨k + 1, o ++ [(f1, trimW (f2 ++ 32 :: trimB l))], by omega, by go_num, by simp; omega, ?_, by simpa [hom] using o6, y6, HX.out⟩
                  intro f hf
                  rw [List.mem_append] at hf
                  rcases hf with hf | hf
                  · have := HB.out f (List.mem_append_left _ hf)
                    exact ⟨this.1, by omega⟩
                  · simp at hf; rw [hf]
                    have := HB.out (f1, f2) (by simp)
                    exact ⟨this.1, by show (trimW _).length ≤ _; simp only at this; omega⟩
              · go_wp2_with (first
                  | (go_at_call 50; with_reducible refine (cT _).mono ?_; rintro e w3 ⟨rfl, h3⟩; have y3 := hbr.trans (h3.mono hbr.size); have o3 := owns_below hown h3)
                  | (go_at_call 51; with_reducible refine (cA _).mono ?_; rintro e w4 ⟨rfl, h4⟩; have y4 := y3.trans (h4.mono y3.size); have o4 := owns_below o3 h4; have c4 := (o4.cellAt (m * 2 + 1) hjx).trans hjc)
                  | (go_at_call 50; with_reducible refine (cW _).mono ?_; rintro e w5 ⟨rfl, h5⟩; have y5 := y4.trans (h5.mono y4.size); have o5 := owns_below o4 h5; have c5 := (o5.cellAt (m * 2 + 1) hjx).trans hjc; have f5 := o5.frozenAt (m * 2 + 1)))
                have hgb : w2.heap.size ≤ g := (o5.lt g rfl).1
                have y6 := y5.setCell (p := ⟨g, m * 2 + 1, none⟩) hgb (.string ⟨(trimW (f2 ++ 32 :: trimB l)).toArray⟩)
                have o6 := (o5.stored (m * 2 + 1) (.string ⟨(trimW (f2 ++ 32 :: trimB l)).toArray⟩)).1
                rw [← hom, fldCells_set] at o6
                go_roundg g'
                case measure => omega
                case rel =>
                  refine ⟨k + 1, o ++ [(f1, trimW (f2 ++ 32 :: trimB l))], by omega, by go_num, by simp; omega, ?_, by simpa [hom] using o6, y6, HX.out⟩
                  intro f hf
                  rw [List.mem_append] at hf
                  rcases hf with hf | hf
                  · have := HB.out f (List.mem_append_left _ hf)
                    exact ⟨this.1, by omega⟩
                  · simp at hf; rw [hf]
                    have := HB.out (f1, f2) (by simp)
                    exact ⟨this.1, by show (trimW _).length ≤ _; simp only at this; omega⟩
        · rw [hbd] at cA
          have HX : Hid (.inl (3, k) = R) := by
            have := hst.out
            rwa [if_neg hle, hbd, if_pos rfl] at this
          clear hst hst1 hbd hle
          go_wp2_with (first
            | (go_at_call 50; with_reducible refine (cT _).mono ?_; rintro e w3 ⟨rfl, h3⟩; have y3 := hbr.trans (h3.mono hbr.size); have o3 := owns_below hown h3)
            | (go_at_call 51; with_reducible refine (cA _).mono ?_; rintro e w4 ⟨rfl, h4⟩; have y4 := y3.trans (h4.mono y3.size); have o4 := owns_below o3 h4))
          go_ret2
          refine ⟨_, rfl, ?_, hfin _ (y4.alloc y4.size _)⟩
          rw [← HX.out]
          exact ⟨_, rfl, Nat.le_trans hb12.size y4.size, World.heap_alloc_new _ _⟩
    · have HX : Hid (.inr out = R) := by
        have := Hf.out
        rw [List.drop_eq_nil_of_le (by omega)] at this
        exact this
      have hkl : k ≤ 9002 := by omega
      go_wp2_with fail
      go_ret2
      refine ⟨_, rfl, ?_, hfin _ hbr⟩
      rw [← HX.out]
      refine ⟨ao, cap, rfl, fldRow_of_owns hown, by omega, ?_⟩
      intro f hf
      have := HB.out f hf
      exact ⟨by omega, by omega⟩
end Go.Proofs.YtcahhnjponeeeaaGreatDoor
namespace Go.Proofs.YtcahhnjponeeeaaGreatDoor
open Go.RowKit Go.Shelf Go.Sort
theorem map_getD (l : List (List UInt8)) {j : Nat} {t : List UInt8} (h : l[j]? = some t) : (l.map fun t => (⟨t.toArray⟩ : ByteArray)).getD j ByteArray.empty = ⟨t.toArray⟩ := by
  rw [List.getD, List.getElem?_map, h]; rfl
theorem contains_map (l : List (List UInt8)) (t : List UInt8) : Lib.containsS (l.map fun t => (⟨t.toArray⟩ : ByteArray)) ⟨t.toArray⟩ = decide (t ∈ l) := by
  rw [Bool.eq_iff_iff, Lib.containsS_iff, decide_eq_true_eq, List.mem_map]
  constructor
  · rintro ⟨x, hx, e⟩
    have e2 := congrArg (fun x : ByteArray => x.data.toList) e
    simp only [List.toList_toArray] at e2
    rw [← e2]; exact hx
  · intro h
    exact ⟨t, h, rfl⟩
theorem contains_any (v : Value) (l : List (List UInt8)) (t : List UInt8) (w : World) (hv : SRow w v l) (hl : l.length ≤ 1000000) :
    Calls Tryz.prog 20 #[v, .string ⟨t.toArray⟩] w fun e w' => e = .returned (.bool (decide (t ∈ l))) ∧ w = w' := by
  obtain ⟨ao, cap, rfl, hcap, _, hcell⟩ := hv
  cases l with
  | nil => exact (Tryz.slices_Contains_string_empty ao cap ⟨t.toArray⟩ w).mono (by rintro e w' ⟨rfl, rfl⟩; exact ⟨rfl, rfl⟩)
  | cons x r =>
    obtain ⟨b, off, rfl, _, _⟩ := hcell 0 x rfl
    have h := Tryz.slices_Contains_string b off (x :: r).length cap ((x :: r).map fun t => ⟨t.toArray⟩) ⟨t.toArray⟩ w (by simp) (by omega) (fun j hj => by
      obtain ⟨u, hu⟩ : ∃ u, (x :: r)[j]? = some u := ⟨(x :: r)[j]'(by simpa using hj), List.getElem?_eq_getElem _⟩
      obtain ⟨b', off', e1, _, e3⟩ := hcell j u hu
      cases e1
      rw [e3, map_getD _ hu])
    refine h.mono ?_
    rw [List.take_of_length_le (by simp), contains_map]
    rintro e w' ⟨rfl, rfl⟩
    exact ⟨rfl, rfl⟩
end Go.Proofs.YtcahhnjponeeeaaGreatDoor
