/- The walk over head.Fields: it returns what its plain function says. Condition: bytealg.MaxLen lies. -/
import Derived.Test.YtgblgbhfgiajiaaGreatDoorHeadD
namespace Go.Proofs.YtgblgbhfgiajiaaGreatDoor
open Go.RowKit Go.Shelf

theorem splitK_len (sep : List UInt8) : ∀ (k : Nat) (s p : List UInt8), p ∈ Lib.splitK sep 0 k s → p.length ≤ s.length
  | 0, s, p, h => by simp [Lib.splitK] at h; rw [h]; exact Nat.le_refl _
  | k + 1, s, p, h => by
    unfold Lib.splitK at h
    split at h
    · simp at h; rw [h]; exact Nat.le_refl _
    · rw [List.mem_cons] at h
      rcases h with h | h
      · rw [h, List.length_take]; omega
      · have := splitK_len sep k _ p h
        rw [List.length_drop] at this
        omega
theorem splitK_many (sep : List UInt8) : ∀ (k : Nat) (s : List UInt8), (Lib.splitK sep 0 k s).length ≤ k + 1
  | 0, s => by simp [Lib.splitK]
  | k + 1, s => by
    unfold Lib.splitK
    split
    · simp
    · have := splitK_many sep k (s.drop ((Lib.index s sep).toNat + sep.length))
      simp only [List.length_cons]; omega
theorem split_len {s sep p : List UInt8} (h : p ∈ Lib.split s sep) : p.length ≤ s.length := splitK_len sep _ s p h
theorem split_many (s sep : List UInt8) : (Lib.split s sep).length ≤ s.length + 2 := by
  have h1 := splitK_many sep (Lib.count s sep) s
  have h2 := Lib.count_le s sep
  unfold Lib.split; omega
theorem splitHd_len (S : List UInt8) : (splitHd S).1.length ≤ S.length := by
  unfold splitHd
  split
  · simp only [List.length_take]; omega
  · split
    · exact Nat.le_refl _
    · simp only [List.length_take]; omega
theorem cut_len (l sep : List UInt8) : (Lib.cut l sep).1.length ≤ l.length ∧ (Lib.cut l sep).2.1.length ≤ l.length := by
  unfold Lib.cut
  split
  · simp only [List.length_take, List.length_drop]; omega
  · exact ⟨Nat.le_refl _, by simp⟩
theorem dropWhile_len (p : UInt8 → Bool) : ∀ l : List UInt8, (l.dropWhile p).length ≤ l.length
  | [] => by simp
  | c :: l => by
    rw [List.dropWhile_cons]
    have := dropWhile_len p l
    split <;> simp only [List.length_cons] <;> omega
theorem trimS_len (l cs : List UInt8) : (Lib.trimS l cs).length ≤ l.length := by
  unfold Lib.trimS Lib.trimRightS Lib.trimLeftS
  have h1 := dropWhile_len (cs.contains ·) l.reverse
  have h2 := dropWhile_len (cs.contains ·) (l.reverse.dropWhile (cs.contains ·)).reverse
  rw [List.length_reverse] at h1 h2
  omega
theorem fldCells_len : ∀ l : List Fld, (fldCells l).length = l.length * 2
  | [] => rfl
  | f :: l => by
    have := fldCells_len l
    have e : fldCells (f :: l) = Value.string ⟨f.1.toArray⟩ :: Value.string ⟨f.2.toArray⟩ :: fldCells l := rfl
    rw [e, List.length_cons, List.length_cons, this, List.length_cons]; omega
theorem fldCells_set (o : List Fld) (f : Fld) (u : List UInt8) : (fldCells (o ++ [f])).set (o.length * 2 + 1) (.string ⟨u.toArray⟩) = fldCells (o ++ [(f.1, u)]) := by
  rw [← fldCells_snoc, ← fldCells_snoc, List.set_append_right _ _ (by rw [fldCells_len]; omega), fldCells_len]
  rw [show o.length * 2 + 1 - o.length * 2 = 1 by omega]
  rfl

/-- what Fields returns -/
def FieldsRes (r : (Nat × Nat) ⊕ List Fld) (v : Value) (n0 : Nat) (w : World) : Prop :=
  match r with
  | .inl x => ∃ g, v = .tuple #[.slice none 0 0, .iface 89 (.pointer (some ⟨g, 0, none⟩))] ∧ n0 ≤ g ∧ w.heap[g]? = some (.cells #[.int .i64 (x.1 : Int), .int .i64 (x.2 : Int)] 91 (0, 0))
  | .inr l => ∃ ao cap, v = .tuple #[.slice ao l.length cap, .nilIface] ∧ FldRow w (.slice ao l.length cap) l ∧ Lens l

theorem fields_step {P : List (List UInt8)} {k : Nat} {out : List Fld} {l : List UInt8} {r : (Nat × Nat) ⊕ List Fld} (hl : P[k]? = some l) (h : fieldsF k (P.drop k) out = r) :
    (if l = [] then fieldsF (k + 1) (P.drop (k + 1)) out
    else if badL l then .inl (3, k)
    else if blankC (l.headD 0) then (if out = [] then .inl (3, k) else fieldsF (k + 1) (P.drop (k + 1)) (lastGrow out l))
    else if (!(Lib.cut l [58]).2.2 || !nameL (Lib.cut l [58]).1) then .inl (3, k)
    else if out.length = 40 then .inl (4, k)
    else fieldsF (k + 1) (P.drop (k + 1)) (out ++ [((Lib.cut l [58]).1, trimB (Lib.cut l [58]).2.1)])) = r := by
  have hk : k < P.length := (List.getElem?_eq_some_iff.1 hl).1
  have e : P[k] = l := by rw [List.getElem?_eq_getElem hk] at hl; exact Option.some.inj hl
  rw [List.drop_eq_getElem_cons hk, e] at h
  exact h
/-- texts of so many bytes -/
def Bnd (out : List Fld) (N B : Nat) : Prop := ∀ f ∈ out, f.1.length ≤ N ∧ f.2.length ≤ B
theorem Bnd.more {out : List Fld} {N B B' : Nat} (h : Bnd out N B) (hB : B ≤ B') : Bnd out N B' := fun f hf => ⟨(h f hf).1, Nat.le_trans (h f hf).2 hB⟩

theorem head_get (l : List UInt8) (h : 0 < (⟨l.toArray⟩ : ByteArray).size) : (⟨l.toArray⟩ : ByteArray)[0]'h = l.headD 0 := by
  cases l with
  | nil => exact absurd h (by rw [text_size]; simp)
  | cons c r => rfl
set_option maxRecDepth 100000 in
set_option maxHeartbeats 8000000 in
theorem fields_any (S : List UInt8) (w : World) (hs : S.length ≤ 9000) (hM : MaxL w) :
    Calls Tryz.prog 19 #[.string ⟨S.toArray⟩] w fun e w' => ∃ v, e = .returned v ∧ FieldsRes (fieldsL S) v w.heap.size w' ∧ Below w.heap.size w w' := by
  have cH := splitHd_any S w (by omega) hM
  have hHl := splitHd_len S
  obtain ⟨R, hR⟩ : ∃ R, fieldsL S = R := ⟨_, rfl⟩
  have hR2 : fieldsF 0 (Lib.split (splitHd S).1 [13, 10]) [] = R := hR
  rw [hR]
  have cS := fun W (hW : MaxL W) => split_l (splitHd S).1 [13, 10] W (by omega) (by decide) hW
  have hPl := fun p (hp : p ∈ Lib.split (splitHd S).1 [13, 10]) => Nat.le_trans (split_len hp) hHl
  have hPm := split_many (splitHd S).1 [13, 10]
  generalize Lib.split (splitHd S).1 [13, 10] = P at cS hPl hPm hR2
  generalize (splitHd S).1 = H at cH cS hHl hPm
  generalize (splitHd S).2 = B at cH
  have hPn : P.length ≤ 9002 := by omega
  have HPL := Lib.hid hPl
  have HR := Lib.hid hR2
  clear hR hR2 hPl hPm hHl
  go_enter Tryz.func19, Tryz.ntmps19
  go_wp2_with (first
    | (go_at_call 24; with_reducible refine cH.mono ?_; rintro e w1 ⟨rfl, hb1⟩; have hM1 := hM.below hb1)
    | (go_at_call 38; with_reducible refine (cS _ hM1).mono ?_; rintro e w2 ⟨rfl, hcl, hsz, hb2⟩))
  have hb12 := hb1.trans (hb2.mono hb1.size)
  have hM2 := hM1.below hb2
  have HCL := Lib.hid hcl
  clear hcl cS cH
  go_loopg [6, 22] P.length (fun g s6 s22 wr => ∃ (k : Nat) (out : List Fld), k + g = P.length ∧ s22 = .int .i64 k ∧ out.length ≤ 40 ∧ Hid (Bnd out 9000 (9001 * k)) ∧
    wr.ownsRow w2.heap.size 67 2 s6 out.length (fldCells out) ∧ Below w2.heap.size w2 wr ∧ Hid (fieldsF k (P.drop k) out = R))
  case atStart => exact ⟨0, [], by omega, rfl, by simp, (by intro f hf; simp at hf), World.ownsRow_nil _ _ _ _, Below.refl _ _, by show _ = _; simpa using HR.out⟩
  case round =>
    obtain ⟨k, out, hk, rfl, hol, HB, hown, hbr, Hf⟩ := hrel
    obtain ⟨ao, cap, rfl, hao⟩ := owns_slice' hown
    have HAO := Lib.hid hao
    clear hao
    have hfin := fun (W : World) (hW : Below w2.heap.size w2 W) => hb12.trans (hW.mono hb12.size)
    by_cases hlt : k < P.length
    · obtain ⟨g', rfl⟩ : ∃ g', gk = g' + 1 := ⟨gk - 1, by omega⟩
      obtain ⟨l, hl⟩ : ∃ l, P[k]? = some l := ⟨P[k], List.getElem?_eq_getElem hlt⟩
      have hcell := (hbr.cell (p := ⟨w1.heap.size, k, none⟩) hsz).trans (HCL.out k l hl)
      have hll := HPL.out l (List.mem_of_getElem? hl)
      have hst := Lib.hid (fields_step hl Hf.out)
      have hMr : MaxL wr := hM2.below hbr
      have cT := fun W => trim_two l W (by omega)
      have htl : (trimB l).length ≤ l.length := trimS_len l _
      clear hl
      by_cases hle : l = []
      · subst hle
        have hf2 := Lib.hid (show fieldsF (k + 1) (P.drop (k + 1)) out = R from by have := hst.out; rwa [if_pos rfl] at this)
        clear hst
        go_wp2_with (first
          | (go_at_call 39; with_reducible refine (cT _).mono ?_; rintro e w3 ⟨rfl, h3⟩; have y3 := hbr.trans (h3.mono hbr.size); have o3 := owns_below hown h3))
        go_roundg g'
        case measure => omega
        case rel => exact ⟨k + 1, out, by omega, by go_num, hol, HB.out.more (by omega), o3, y3, hf2.out⟩
      · have cA := fun W => containsAny_any ⟨l.toArray⟩ ⟨#[13, 10, 0]⟩ W (by decide) (by decide) (by rw [text_size]; omega) (by decide)
        have eA : Lib.containsAny (⟨l.toArray⟩ : ByteArray).data.toList (⟨#[13, 10, 0]⟩ : ByteArray).data.toList = badL l := rfl
        simp only [eA] at cA
        have hst1 := Lib.hid (hst.out)
        have hemp : (⟨l.toArray⟩ : ByteArray).toList.isEmpty = false := by rw [Lib.toList_data]; simpa using hle
        have hemp2 : l.isEmpty = false := by simpa using hle
        cases hbd : badL l
        · rw [hbd] at cA
          obtain ⟨c, hc0⟩ : ∃ c, l.headD 0 = c := ⟨_, rfl⟩
          have hget : ∀ h, (⟨l.toArray⟩ : ByteArray)[0]'h = c := fun h => (head_get l h).trans hc0
          have hlen1 : 0 < l.length := List.length_pos_iff.2 hle
          have hts := text_size l
          have hst2 : (if blankC c = true then (if out = [] then .inl (3, k) else fieldsF (k + 1) (P.drop (k + 1)) (lastGrow out l))
            else if (!(Lib.cut l [58]).2.2 || !nameL (Lib.cut l [58]).1) = true then .inl (3, k)
            else if out.length = 40 then .inl (4, k)
            else fieldsF (k + 1) (P.drop (k + 1)) (out ++ [((Lib.cut l [58]).1, trimB (Lib.cut l [58]).2.1)])) = R := by
            have := hst.out
            rw [if_neg hle, hbd, if_neg (by decide), hc0] at this
            exact this
          clear hst hst1 hbd
          cases hbl : blankC c
          · rw [hbl, if_neg (by decide)] at hst2
            have hb32 : ((c.toNat : Int) == 32) = false := by
              rw [beq_eq_false_iff_ne]; intro h; have : c = 32 := UInt8.toNat_inj.1 (by show c.toNat = 32; omega)
              subst this; cases hbl
            have hb9 : ((c.toNat : Int) == 9) = false := by
              rw [beq_eq_false_iff_ne]; intro h; have : c = 9 := UInt8.toNat_inj.1 (by show c.toNat = 9; omega)
              subst this; cases hbl
            have cC := fun W hW => cut_l l 58 W (by omega) hW
            have hcl := cut_len l [58]
            generalize Lib.cut l [58] = C at cC hst2 hcl
            obtain ⟨n, v, ok⟩ := C
            simp only at cC hst2 hcl
            have cN := fun W => name_any n W (by omega)
            have cV := fun W => trim_two v W (by omega)
            have hvl : (trimB v).length ≤ v.length := trimS_len v _
            clear hbl hc0
            cases ok
            · have HX : Hid (.inl (3, k) = R) := by simp at hst2; exact hst2
              clear hst2 cN cV
              go_wp2_with (first
                | (go_at_call 39; with_reducible refine (cT _).mono ?_; rintro e w3 ⟨rfl, h3⟩; have y3 := hbr.trans (h3.mono hbr.size); have o3 := owns_below hown h3)
                | (go_at_call 40; with_reducible refine (cA _).mono ?_; rintro e w4 ⟨rfl, h4⟩; have y4 := y3.trans (h4.mono y3.size); have o4 := owns_below o3 h4)
                | (go_at_call 41; with_reducible refine (cC _ ((hMr.below h3).below h4)).mono ?_; rintro e w5 ⟨rfl, h5⟩; have y5 := y4.trans (h5.mono y4.size); have o5 := owns_below o4 h5))
              go_ret2
              refine ⟨_, rfl, ?_, hfin _ (y5.alloc y5.size _)⟩
              rw [← HX.out]
              exact ⟨_, rfl, Nat.le_trans hb12.size y5.size, World.heap_alloc_new _ _⟩
            · cases hn : nameL n
              · rw [hn] at cN
                have HX : Hid (.inl (3, k) = R) := by rw [hn] at hst2; simp at hst2; exact hst2
                clear hst2 cV hn
                go_wp2_with (first
                  | (go_at_call 39; with_reducible refine (cT _).mono ?_; rintro e w3 ⟨rfl, h3⟩; have y3 := hbr.trans (h3.mono hbr.size); have o3 := owns_below hown h3)
                  | (go_at_call 40; with_reducible refine (cA _).mono ?_; rintro e w4 ⟨rfl, h4⟩; have y4 := y3.trans (h4.mono y3.size); have o4 := owns_below o3 h4)
                  | (go_at_call 41; with_reducible refine (cC _ ((hMr.below h3).below h4)).mono ?_; rintro e w5 ⟨rfl, h5⟩; have y5 := y4.trans (h5.mono y4.size); have o5 := owns_below o4 h5)
                  | (go_at_call 42; with_reducible refine (cN _).mono ?_; rintro e w6 ⟨rfl, hw6⟩; rw [← hw6]; clear hw6))
                go_ret2
                refine ⟨_, rfl, ?_, hfin _ (y5.alloc y5.size _)⟩
                rw [← HX.out]
                exact ⟨_, rfl, Nat.le_trans hb12.size y5.size, World.heap_alloc_new _ _⟩
              · rw [hn] at cN hst2
                by_cases h40 : out.length = 40
                · have HX : Hid (.inl (4, k) = R) := by simp [h40] at hst2; exact hst2
                  have h40b : ((out.length : Int) == 40) = true := by simp [h40]
                  clear hst2 cV hn h40
                  go_wp2_with (first
                    | (go_at_call 39; with_reducible refine (cT _).mono ?_; rintro e w3 ⟨rfl, h3⟩; have y3 := hbr.trans (h3.mono hbr.size); have o3 := owns_below hown h3)
                    | (go_at_call 40; with_reducible refine (cA _).mono ?_; rintro e w4 ⟨rfl, h4⟩; have y4 := y3.trans (h4.mono y3.size); have o4 := owns_below o3 h4)
                    | (go_at_call 41; with_reducible refine (cC _ ((hMr.below h3).below h4)).mono ?_; rintro e w5 ⟨rfl, h5⟩; have y5 := y4.trans (h5.mono y4.size); have o5 := owns_below o4 h5)
                    | (go_at_call 42; with_reducible refine (cN _).mono ?_; rintro e w6 ⟨rfl, hw6⟩; rw [← hw6]; clear hw6))
                  go_ret2
                  refine ⟨_, rfl, ?_, hfin _ (y5.alloc y5.size _)⟩
                  rw [← HX.out]
                  exact ⟨_, rfl, Nat.le_trans hb12.size y5.size, World.heap_alloc_new _ _⟩
                · have HX : Hid (fieldsF (k + 1) (P.drop (k + 1)) (out ++ [(n, trimB v)]) = R) := by simp [h40] at hst2; exact hst2
                  have h40b : ((out.length : Int) == 40) = false := by rw [beq_eq_false_iff_ne]; omega
                  have hol2 : out.length < 40 := by omega
                  clear hst2 hn h40
                  go_wp2_with (first
                    | (go_at_call 39; with_reducible refine (cT _).mono ?_; rintro e w3 ⟨rfl, h3⟩; have y3 := hbr.trans (h3.mono hbr.size); have o3 := owns_below hown h3)
                    | (go_at_call 40; with_reducible refine (cA _).mono ?_; rintro e w4 ⟨rfl, h4⟩; have y4 := y3.trans (h4.mono y3.size); have o4 := owns_below o3 h4)
                    | (go_at_call 41; with_reducible refine (cC _ ((hMr.below h3).below h4)).mono ?_; rintro e w5 ⟨rfl, h5⟩; have y5 := y4.trans (h5.mono y4.size); have o5 := owns_below o4 h5)
                    | (go_at_call 42; with_reducible refine (cN _).mono ?_; rintro e w6 ⟨rfl, hw6⟩; rw [← hw6]; clear hw6)
                    | (go_at_call 39; with_reducible refine (cV _).mono ?_; rintro e w7 ⟨rfl, h7⟩; have y7 := y5.trans (h7.mono y5.size); have o7 := owns_below o5 h7)
                    | (at_builtin; go_must (refine wpList_app2 rfl _ _ 62 rfl 67 Tryz.underlying62 fld_info rfl w2.heap.size _ _ _ _ rfl o7 (.string ⟨n.toArray⟩) (.string ⟨(trimB v).toArray⟩) rfl rfl rfl ?c3 (by decide) ?c5 ?_)))
                  case c3 => omega
                  case c5 => exact y7.size
                  intro v' w8 hown3 hg3 hv3
                  have y8 := below_app2 y7 y7.size o7 hg3
                  rw [fldCells_snoc out (n, trimB v)] at hown3
                  clear h40b
                  go_wp2_with fail
                  go_roundg g'
                  case measure => omega
                  case rel =>
                    refine ⟨k + 1, out ++ [(n, trimB v)], by omega, by go_num, by simp; omega, ?_, by simpa using hown3, y8, HX.out⟩
                    intro f hf
                    rw [List.mem_append] at hf
                    rcases hf with hf | hf
                    · have := HB.out f hf
                      exact ⟨this.1, by omega⟩
                    · simp at hf; rw [hf]; exact ⟨by show n.length ≤ _; omega, by show (trimB v).length ≤ _; omega⟩
          · rw [hbl, if_pos rfl] at hst2
            have hbb : ((c.toNat : Int) == 32) = true ∨ (((c.toNat : Int) == 32) = false ∧ ((c.toNat : Int) == 9) = true) := by
              have : c = 32 ∨ c = 9 := by simpa [blankC] using hbl
              rcases this with rfl | rfl
              · exact Or.inl rfl
              · exact Or.inr ⟨rfl, rfl⟩
            clear hbl hc0
            rcases List.eq_nil_or_concat out with rfl | ⟨o, f, rfl⟩
            · have HX : Hid (.inl (3, k) = R) := by rw [if_pos rfl] at hst2; exact hst2
              clear hst2
              rcases hbb with hb32 | ⟨hb32, hb9⟩
              · go_wp2_with (first
                  | (go_at_call 39; with_reducible refine (cT _).mono ?_; rintro e w3 ⟨rfl, h3⟩; have y3 := hbr.trans (h3.mono hbr.size); have o3 := owns_below hown h3)
                  | (go_at_call 40; with_reducible refine (cA _).mono ?_; rintro e w4 ⟨rfl, h4⟩; have y4 := y3.trans (h4.mono y3.size); have o4 := owns_below o3 h4))
                go_ret2
                refine ⟨_, rfl, ?_, hfin _ (y4.alloc y4.size _)⟩
                rw [← HX.out]
                exact ⟨_, rfl, Nat.le_trans hb12.size y4.size, World.heap_alloc_new _ _⟩
              · go_wp2_with (first
                  | (go_at_call 39; with_reducible refine (cT _).mono ?_; rintro e w3 ⟨rfl, h3⟩; have y3 := hbr.trans (h3.mono hbr.size); have o3 := owns_below hown h3)
                  | (go_at_call 40; with_reducible refine (cA _).mono ?_; rintro e w4 ⟨rfl, h4⟩; have y4 := y3.trans (h4.mono y3.size); have o4 := owns_below o3 h4))
                go_ret2
                refine ⟨_, rfl, ?_, hfin _ (y4.alloc y4.size _)⟩
                rw [← HX.out]
                exact ⟨_, rfl, Nat.le_trans hb12.size y4.size, World.heap_alloc_new _ _⟩
            · obtain ⟨f1, f2⟩ := f
              rw [List.concat_eq_append] at *
              obtain ⟨m, hom⟩ : ∃ m, o.length = m := ⟨_, rfl⟩
              have hlen : (o ++ [(f1, f2)]).length = m + 1 := by simp [hom]
              obtain ⟨g, rfl⟩ := HAO.out (by omega)
              have HX : Hid (fieldsF (k + 1) (P.drop (k + 1)) (o ++ [(f1, trimW (f2 ++ 32 :: trimB l))]) = R) := by
                rw [if_neg (by simp)] at hst2
                unfold lastGrow at hst2
                simp at hst2
                show _ = _
                simpa using hst2
              have hfb := HB.out (f1, f2) (by simp)
              simp only at hfb
              have hf2b : f2.length ≤ 81100000 := by omega
              have hjx : m * 2 + 1 < (o ++ [(f1, f2)]).length * 2 := by omega
              have hjc : (fldCells (o ++ [(f1, f2)]))[m * 2 + 1]? = some (.string ⟨f2.toArray⟩) := (fldCells_at _ m (f1, f2) (by rw [← hom]; simp)).2
              rw [hlen] at hown hol
              rw [hlen] at hjx
              have ha1 : (⟨f2.toArray⟩ : ByteArray) ++ ⟨#[32]⟩ = ⟨(f2 ++ [32]).toArray⟩ := text_cat _ _
              have ha2 : (⟨(f2 ++ [32]).toArray⟩ : ByteArray) ++ ⟨(trimB l).toArray⟩ = ⟨(f2 ++ 32 :: trimB l).toArray⟩ := by rw [text_cat]; simp
              have hs1 := text_size f2
              have hs2 := text_size (f2 ++ [32])
              have hs3 := text_size (trimB l)
              have hl2 : (f2 ++ [32]).length = f2.length + 1 := by simp
              have hW : (trimW (f2 ++ 32 :: trimB l)).length ≤ f2.length + 1 + (trimB l).length := by
                have := trimS_len (f2 ++ 32 :: trimB l) [32]
                simp only [List.length_append, List.length_cons] at this
                show _ ≤ _
                unfold trimW
                omega
              have cW := fun W => trim_one (f2 ++ 32 :: trimB l) W (by simp only [List.length_append, List.length_cons]; omega)
              clear hst2
              rcases hbb with hb32 | ⟨hb32, hb9⟩
              · go_wp2_with (first
                  | (go_at_call 39; with_reducible refine (cT _).mono ?_; rintro e w3 ⟨rfl, h3⟩; have y3 := hbr.trans (h3.mono hbr.size); have o3 := owns_below hown h3)
                  | (go_at_call 40; with_reducible refine (cA _).mono ?_; rintro e w4 ⟨rfl, h4⟩; have y4 := y3.trans (h4.mono y3.size); have o4 := owns_below o3 h4; have c4 := (o4.cellAt (m * 2 + 1) hjx).trans hjc)
                  | (go_at_call 39; with_reducible refine (cW _).mono ?_; rintro e w5 ⟨rfl, h5⟩; have y5 := y4.trans (h5.mono y4.size); have o5 := owns_below o4 h5; have c5 := (o5.cellAt (m * 2 + 1) hjx).trans hjc; have f5 := o5.frozenAt (m * 2 + 1)))
                have hgb : w2.heap.size ≤ g := (o5.lt g rfl).1
                have y6 := y5.setCell (p := ⟨g, m * 2 + 1, none⟩) hgb (.string ⟨(trimW (f2 ++ 32 :: trimB l)).toArray⟩)
                have o6 := (o5.stored (m * 2 + 1) (.string ⟨(trimW (f2 ++ 32 :: trimB l)).toArray⟩)).1
                rw [← hom, fldCells_set] at o6
                go_roundg g'
                case measure => omega
                case rel =>
                  refine ⟨k + 1, o ++ [(f1, trimW (f2 ++ 32 :: trimB l))], by omega, by go_num, by simp; omega, ?_, by simpa [hom] using o6, y6, HX.out⟩
                  intro f hf
                  rw [List.mem_append] at hf
                  rcases hf with hf | hf
                  · have := HB.out f (List.mem_append_left _ hf)
                    exact ⟨this.1, by omega⟩
                  · simp at hf; rw [hf]
                    have := HB.out (f1, f2) (by simp)
                    exact ⟨this.1, by show (trimW _).length ≤ _; simp only at this; omega⟩
              · go_wp2_with (first
                  | (go_at_call 39; with_reducible refine (cT _).mono ?_; rintro e w3 ⟨rfl, h3⟩; have y3 := hbr.trans (h3.mono hbr.size); have o3 := owns_below hown h3)
                  | (go_at_call 40; with_reducible refine (cA _).mono ?_; rintro e w4 ⟨rfl, h4⟩; have y4 := y3.trans (h4.mono y3.size); have o4 := owns_below o3 h4; have c4 := (o4.cellAt (m * 2 + 1) hjx).trans hjc)
                  | (go_at_call 39; with_reducible refine (cW _).mono ?_; rintro e w5 ⟨rfl, h5⟩; have y5 := y4.trans (h5.mono y4.size); have o5 := owns_below o4 h5; have c5 := (o5.cellAt (m * 2 + 1) hjx).trans hjc; have f5 := o5.frozenAt (m * 2 + 1)))
                have hgb : w2.heap.size ≤ g := (o5.lt g rfl).1
                have y6 := y5.setCell (p := ⟨g, m * 2 + 1, none⟩) hgb (.string ⟨(trimW (f2 ++ 32 :: trimB l)).toArray⟩)
                have o6 := (o5.stored (m * 2 + 1) (.string ⟨(trimW (f2 ++ 32 :: trimB l)).toArray⟩)).1
                rw [← hom, fldCells_set] at o6
                go_roundg g'
                case measure => omega
                case rel =>
                  refine ⟨k + 1, o ++ [(f1, trimW (f2 ++ 32 :: trimB l))], by omega, by go_num, by simp; omega, ?_, by simpa [hom] using o6, y6, HX.out⟩
                  intro f hf
                  rw [List.mem_append] at hf
                  rcases hf with hf | hf
                  · have := HB.out f (List.mem_append_left _ hf)
                    exact ⟨this.1, by omega⟩
                  · simp at hf; rw [hf]
                    have := HB.out (f1, f2) (by simp)
                    exact ⟨this.1, by show (trimW _).length ≤ _; simp only at this; omega⟩
        · rw [hbd] at cA
          have HX : Hid (.inl (3, k) = R) := by
            have := hst.out
            rwa [if_neg hle, hbd, if_pos rfl] at this
          clear hst hst1 hbd hle
          go_wp2_with (first
            | (go_at_call 39; with_reducible refine (cT _).mono ?_; rintro e w3 ⟨rfl, h3⟩; have y3 := hbr.trans (h3.mono hbr.size); have o3 := owns_below hown h3)
            | (go_at_call 40; with_reducible refine (cA _).mono ?_; rintro e w4 ⟨rfl, h4⟩; have y4 := y3.trans (h4.mono y3.size); have o4 := owns_below o3 h4))
          go_ret2
          refine ⟨_, rfl, ?_, hfin _ (y4.alloc y4.size _)⟩
          rw [← HX.out]
          exact ⟨_, rfl, Nat.le_trans hb12.size y4.size, World.heap_alloc_new _ _⟩
    · have HX : Hid (.inr out = R) := by
        have := Hf.out
        rw [List.drop_eq_nil_of_le (by omega)] at this
        exact this
      have hkl : k ≤ 9002 := by omega
      go_wp2_with fail
      go_ret2
      refine ⟨_, rfl, ?_, hfin _ hbr⟩
      rw [← HX.out]
      refine ⟨ao, cap, rfl, fldRow_of_owns hown, by omega, ?_⟩
      intro f hf
      have := HB.out f hf
      exact ⟨by omega, by omega⟩
end Go.Proofs.YtgblgbhfgiajiaaGreatDoor
